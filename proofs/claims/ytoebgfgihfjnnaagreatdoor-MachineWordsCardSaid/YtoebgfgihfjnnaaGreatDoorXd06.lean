/- Contracts and plain facts that the claim uses (MaF MaG MaH MaI QrP QrA QrB SpB). Conditions: as each one states. -/
import Derived.Test.YtoebgfgihfjnnaaGreatDoorXd02
import Derived.Test.YtoebgfgihfjnnaaGreatDoorXd03
import Derived.Test.YtoebgfgihfjnnaaGreatDoorXd04
import Derived.Test.YtoebgfgihfjnnaaGreatDoorXd05
set_option linter.all false

namespace Go.Proofs.YtoebgfgihfjnnaaGreatDoor
open Go.RowKit
set_option maxHeartbeats 8000000
set_option maxRecDepth 100000

theorem intsTake {w : World} {a : Option Addr} {cap m : Nat} {r : List Int} (h : Ints w a cap r) (hm : m ≤ r.length) : Ints w a cap (r.take m) := by
 have h1 := h.le
 refine ⟨cIntS, by simp; omega, h.2.2.1, h.2.2.2.1, fun j u hj => ?_⟩
 have e : ∀ L : List Int, (L.flatMap fun x => (cInt x).cells.toList) = L.map cInt := by
  intro L
  induction L with
  | nil => rfl
  | cons x r ih => rw [List.flatMap_cons, ih]; rfl
 refine h.2.2.2.2 j u ?_
 rw [e] at hj ⊢
 rw [List.map_take, List.getElem?_take] at hj
 split at hj
 ·exact hj
 ·cases hj
/-- the pairs gone through at a place of both loops. -/
def pairsAt (l : List Int) (i j : Nat) : List (Int × Int) := pairsTo l i ++ (l.take j).map fun b => (atD 0 l i, b)
theorem pairsAt_zero (l : List Int) (i : Nat) : pairsAt l i 0 = pairsTo l i := by simp [pairsAt]
theorem pairsAt_last (l : List Int) (i : Nat) : pairsAt l i i = pairsTo l (i + 1) := by rw [pairsTo_succ]; rfl
theorem take_snoc {l : List Int} {j : Nat} (h : j < l.length) : l.take (j + 1) = l.take j ++ [atD 0 l j] := by
 rw [List.take_succ_eq_append_getElem h]
 simp [atD, h]
theorem first_step (m : MacV) {l : List Int} {i j : Nat} (h : j < l.length) : firstTo m (pairsAt l i (j + 1)) = bestS (firstTo m (pairsAt l i j)) (meetM m (atD 0 l i) (atD 0 l j)) := by
 unfold pairsAt
 rw [take_snoc h, List.map_append, ← List.append_assoc]
 exact firstTo_snoc m _ _

theorem firstB_any (m : MacV) (ad al : Option Addr) (cap cl : Nat) (l : List Int) (w : World) (hR : Ints w ad cap m.sw) (hL : Ints w al cl l) (hg : m.gears ≤ 16) (hl : ∀ x ∈ l, 0 ≤ x ∧ x < 4 * m.gears) :
  Calls Tryz.prog 106 #[mV m ad cap, .slice al l.length cl] w fun r w' => r = .returned (meV (firstM m l)) ∧ Below w.heap.size w w' := by
 have hcap := hL.le
 have hmx := hL.max
 have CM := fun (i j : Nat) w (h : Ints w ad cap m.sw) (hi : i < l.length) (hj : j < l.length) => meet_any m ad cap (atD 0 l i) (atD 0 l j) w h hg (hl _ (atD_memZ (by omega) (by omega))).1 (hl _ (atD_memZ (by omega) (by omega))).2 (hl _ (atD_memZ (by omega) (by omega))).1 (hl _ (atD_memZ (by omega) (by omega))).2
 have hS := (((SL.nil w).box (.cells (mC m ad cap) 24)).box (.cells #[.int .i64 0, .int .i64 0] 137)).box (.cells (meO none) 137)
 simp only [World.size_alloc] at hS
 have HM := hid CM
 clear CM hl
 go_enter Tryz.func106, Tryz.ntmps106
 go_wp2_with fail
 go_loopw [7, 16] (fun fo i wr => ∃ k : Nat, k ≤ l.length ∧ fo = .bool (firstTo m (pairsTo l k)).isSome ∧ i = .int .i64 k ∧ SL w.heap.size w wr [pBlk (w.heap.size + 1 + 1) (.cells (meO (firstTo m (pairsTo l k))) 137), pBlk (w.heap.size + 1) (.cells #[.int .i64 0, .int .i64 0] 137), pBlk w.heap.size (.cells (mC m ad cap) 24)]) (fun _ i _ => l.length - (intOf i).toNat)
 case atStart => exact ⟨0, by omega, rfl, rfl, hS⟩
 case round =>
  clear hS
  obtain ⟨k, hk, rfl, rfl, hSr⟩ := hrel
  by_cases hlt : k < l.length
  ·have hLr := hL.below hSr.b
   go_wp2_with (with_reducible refine wpList_idx _ 0 E_ints F_int cInt1 wU wU (hLr) oD oD (fun _ => wU) (fun _ => ?_))
   go_loopw [7, 25] (fun fo i wq => ∃ j : Nat, j ≤ k ∧ fo = .bool (firstTo m (pairsAt l k j)).isSome ∧ i = .int .i64 j ∧ SL w.heap.size w wq [pBlk (w.heap.size + 1 + 1) (.cells (meO (firstTo m (pairsAt l k j))) 137), pBlk (w.heap.size + 1) (.cells #[.int .i64 0, .int .i64 0] 137), pBlk w.heap.size (.cells (mC m ad cap) 24)]) (fun _ i _ => k - (intOf i).toNat)
   case atStart => exact ⟨0, by omega, by rw [pairsAt_zero], rfl, by rw [pairsAt_zero]; exact hSr⟩
   case round =>
    clear hSr hLr
    obtain ⟨j, hj, rfl, rfl, hSq⟩ := hrel
    by_cases hjk : j < k
    ·have hst := first_step m (l := l) (i := k) (j := j) (by omega)
     have hCM := fun w h => HM.out k j w h hlt (by omega)
     have hRq := hR.below hSq.b
     have hLq := intsTake (hL.below hSq.b) (m := k) (by omega)
     have hlk : (l.take k).length = k := by simp; omega
     have hat : atD 0 (l.take k) j = atD 0 l j := atD_take hjk
     obtain ⟨B, hB⟩ : ∃ B, B = firstTo m (pairsAt l k j) := ⟨_, rfl⟩
     obtain ⟨R, hRR⟩ : ∃ R, R = meetM m (atD 0 l k) (atD 0 l j) := ⟨_, rfl⟩
     rw [← hB, ← hRR] at hst
     rw [← hRR] at hCM
     rw [← hB] at hSq ⊢
     have HC := hid hCM
     have HAT := hid hat
     have q2 := (hSq.blk 2 rfl).1
     clear hCM hB hRR hat
     cases R with
     | none =>
      have hst2 : firstTo m (pairsAt l k (j + 1)) = B := hst
      have HST := hid hst2
      clear hst hst2
      go_wp2_with (first | ((with_reducible refine wpList_idxN _ 0 E_ints F_int cInt1 wU wU (hLq) (hlk) oD oD (fun _ => wU) (fun _ => ?_)); rw [HAT.out]) | (with_reducible refine wpList_ldS (n := 4) (us := mC m ad cap) A_mach kR wU wU (by assumption) wU wU ?_))
      refine (HC.out _ hRq).mono ?_
      rintro e w4 ⟨rfl, b4⟩
      have hS4 := hSq.mono b4
      have hS5 := hS4.box (.cells #[.int .i64 0, .int .i64 0] 137)
      clear q2
      go_wp2_with ((with_reducible refine wpList_stoR (us := #[.int .i64 0, .int .i64 0]) 0 wU wU (hS5) wU kR wU wU ?_); intro w6 hS6)
      exact ⟨⟨j + 1, by omega, by rw [HST.out], by go_num, by rw [HST.out]; exact hS6.tail⟩, by simp [intOf]; omega⟩
     | some v =>
      cases B with
      | none =>
       have hst2 : firstTo m (pairsAt l k (j + 1)) = some v := hst
       have HST := hid hst2
       clear hst hst2
       go_wp2_with (first | ((with_reducible refine wpList_idxN _ 0 E_ints F_int cInt1 wU wU (hLq) (hlk) oD oD (fun _ => wU) (fun _ => ?_)); rw [HAT.out]) | (with_reducible refine wpList_ldS (n := 4) (us := mC m ad cap) A_mach kR wU wU (by assumption) wU wU ?_))
       refine (HC.out _ hRq).mono ?_
       rintro e w4 ⟨rfl, b4⟩
       have hS4 := hSq.mono b4
       have hS5 := hS4.box (.cells #[.int .i64 0, .int .i64 0] 137)
       clear q2
       have hS6 : ∀ w6, SL w.heap.size w w6 [pBlk w4.heap.size (.cells (meC v) 137), pBlk (w.heap.size + 1 + 1) (.cells (meO none) 137), pBlk (w.heap.size + 1) (.cells #[.int .i64 0, .int .i64 0] 137), pBlk w.heap.size (.cells (mC m ad cap) 24)] → w6.heap[w4.heap.size]? = some (.cells (meC v) 137) := fun w6 h => (h.blk 0 rfl).1
       go_wp2_with (first | (((with_reducible refine wpList_stoR (us := meC v) 0 wU wU (hS5) wU kR wU wU ?_); intro w6 hT6); have q6 := hS6 _ hT6) | (with_reducible refine wpList_ldS (n := 2) (us := meC v) A_meet kR wU wU (by assumption) wU wU ?_) | ((with_reducible refine wpList_stoR (us := meC v) 1 wU wU (hT6) wU kR wU wU ?_); intro w7 hT7))
       exact ⟨⟨j + 1, by omega, by rw [HST.out]; rfl, by go_num, by rw [HST.out]; exact hT7.tail⟩, by simp [intOf]; omega⟩
      | some u =>
       cases hb : befo v u
       ·have hst2 : firstTo m (pairsAt l k (j + 1)) = some u := by rw [hst]; show (if befo v u then some v else some u) = _; rw [hb]; rfl
        have CB := fun w => before_any v u w
        rw [hb] at CB
        have HST := hid hst2; have HB := hid CB
        clear hst hst2 CB hb
        go_wp2_with (first | ((with_reducible refine wpList_idxN _ 0 E_ints F_int cInt1 wU wU (hLq) (hlk) oD oD (fun _ => wU) (fun _ => ?_)); rw [HAT.out]) | (with_reducible refine wpList_ldS (n := 4) (us := mC m ad cap) A_mach kR wU wU (by assumption) wU wU ?_))
        refine (HC.out _ hRq).mono ?_
        rintro e w4 ⟨rfl, b4⟩
        have hS4 := hSq.mono b4
        have hS5 := hS4.box (.cells #[.int .i64 0, .int .i64 0] 137)
        clear q2
        go_wp2_with (first | (((with_reducible refine wpList_stoR (us := meC v) 0 wU wU (hS5) wU kR wU wU ?_); intro w6 hT6); have q6 := (hT6.blk 0 rfl).1; have q7 := (hT6.blk 1 rfl).1) | (with_reducible refine wpList_ldS (n := 2) (us := meC v) A_meet kR wU wU (by assumption) wU wU ?_) | (with_reducible refine wpList_ldS (n := 2) (us := meC u) A_meet kR wU wU (by assumption) wU wU ?_))
        refine (HB.out _).mono ?_
        rintro e w7 ⟨rfl, b7⟩
        have hT7 := hT6.mono b7
        clear q6 q7
        go_wp2_with fail
        exact ⟨⟨j + 1, by omega, by rw [HST.out]; rfl, by go_num, by rw [HST.out]; exact hT7.tail⟩, by simp [intOf]; omega⟩
       ·have hst2 : firstTo m (pairsAt l k (j + 1)) = some v := by rw [hst]; show (if befo v u then some v else some u) = _; rw [hb]; rfl
        have CB := fun w => before_any v u w
        rw [hb] at CB
        have HST := hid hst2; have HB := hid CB
        clear hst hst2 CB hb
        go_wp2_with (first | ((with_reducible refine wpList_idxN _ 0 E_ints F_int cInt1 wU wU (hLq) (hlk) oD oD (fun _ => wU) (fun _ => ?_)); rw [HAT.out]) | (with_reducible refine wpList_ldS (n := 4) (us := mC m ad cap) A_mach kR wU wU (by assumption) wU wU ?_))
        refine (HC.out _ hRq).mono ?_
        rintro e w4 ⟨rfl, b4⟩
        have hS4 := hSq.mono b4
        have hS5 := hS4.box (.cells #[.int .i64 0, .int .i64 0] 137)
        clear q2
        go_wp2_with (first | (((with_reducible refine wpList_stoR (us := meC v) 0 wU wU (hS5) wU kR wU wU ?_); intro w6 hT6); have q6 := (hT6.blk 0 rfl).1; have q7 := (hT6.blk 1 rfl).1) | (with_reducible refine wpList_ldS (n := 2) (us := meC v) A_meet kR wU wU (by assumption) wU wU ?_) | (with_reducible refine wpList_ldS (n := 2) (us := meC u) A_meet kR wU wU (by assumption) wU wU ?_))
        refine (HB.out _).mono ?_
        rintro e w7 ⟨rfl, b7⟩
        have hT7 := hT6.mono b7
        clear q6 q7
        have q8 := (hT7.blk 0 rfl).1
        go_wp2_with (first | (with_reducible refine wpList_ldS (n := 2) (us := meC v) A_meet kR wU wU (by assumption) wU wU ?_) | ((with_reducible refine wpList_stoR (us := meC v) 1 wU wU (hT7) wU kR wU wU ?_); intro w8 hT8))
        exact ⟨⟨j + 1, by omega, by rw [HST.out]; rfl, by go_num, by rw [HST.out]; exact hT8.tail⟩, by simp [intOf]; omega⟩
    ·have hjj : j = k := by omega
     subst hjj
     have e := pairsAt_last l j
     have HE := hid e
     clear e
     go_wp2_with fail
     exact ⟨⟨j + 1, by omega, by rw [HE.out], by go_num, by rw [← HE.out]; exact hSq⟩, by simp [intOf]; omega⟩
  ·have hkk : k = l.length := by omega
   subst hkk
   have e : firstTo m (pairsTo l l.length) = firstM m l := rfl
   rw [e] at hSr ⊢
   cases hf : firstM m l with
   | none =>
    rw [hf] at hSr
    have q0 := (hSr.blk 0 rfl).1
    have HF := hid hf
    clear hf e
    go_wp2_with (first | (with_reducible refine wpList_ldS (n := 2) (us := #[.int .i64 0, .int .i64 0]) A_meet kR wU wU (by assumption) wU wU ?_) | ((with_reducible refine wpList_stoR (us := #[.int .i64 0, .int .i64 0]) 1 wU wU (hSr) wU kR wU wU ?_); intro w6 hS6))
    exact bodyPost_ret (results_cellSlot rfl rfl rfl A_meet kR (hS6.blk 1 rfl).1) rfl ⟨by rw [HF.out]; rfl, hS6.b⟩
   | some v =>
    rw [hf] at hSr
    have q0 := (hSr.blk 0 rfl).1
    have HF := hid hf
    clear hf e
    go_wp2_with (first | (with_reducible refine wpList_ldS (n := 2) (us := meC v) A_meet kR wU wU (by assumption) wU wU ?_) | ((with_reducible refine wpList_stoR (us := meC v) 1 wU wU (hSr) wU kR wU wU ?_); intro w6 hS6))
    exact bodyPost_ret (results_cellSlot rfl rfl rfl A_meet kR (hS6.blk 1 rfl).1) rfl ⟨by rw [HF.out]; rfl, hS6.b⟩
end Go.Proofs.YtoebgfgihfjnnaaGreatDoor

namespace Go.Proofs.YtoebgfgihfjnnaaGreatDoor
open Go.RowKit
set_option maxHeartbeats 8000000
set_option maxRecDepth 100000

noncomputable def meetsM (m : MacV) (l : List Int) (n : Int) : Bool := match firstM m l with
 | none => false
 | some x => decide ((x.1 : Int) ≤ n)
theorem meets_any (m : MacV) (ad al : Option Addr) (cap cl : Nat) (l : List Int) (n : Int) (w : World) (hR : Ints w ad cap m.sw) (hL : Ints w al cl l) (hg : m.gears ≤ 16) (hl : ∀ x ∈ l, 0 ≤ x ∧ x < 4 * m.gears) :
  Calls Tryz.prog 62 #[mV m ad cap, .slice al l.length cl, .int .i64 n] w fun r w' => r = .returned (.bool (meetsM m l n)) ∧ Below w.heap.size w w' := by
 have CF := fun w h1 h2 => firstB_any m ad al cap cl l w h1 h2 hg hl
 have hS := (SL.nil w).box (.cells (mC m ad cap) 24)
 have hdef : meetsM m l n = match firstM m l with | none => false | some x => decide ((x.1 : Int) ≤ n) := rfl
 rw [hdef]
 clear hdef
 cases hf : firstM m l with
 | none =>
  rw [hf] at CF
  have HF := hid CF
  clear CF hf
  go_enter Tryz.func62, Tryz.ntmps62
  go_wp2_with fail
  refine (HF.out _ (hR.below hS.b) (hL.below hS.b)).mono ?_
  rintro e w1 ⟨rfl, b1⟩
  have hS1 := (hS.mono b1).box (.cells #[.int .i64 0, .int .i64 0] 137)
  go_wp2_with ((with_reducible refine wpList_stoR (us := #[.int .i64 0, .int .i64 0]) 0 wU wU (hS1) wU kR wU wU ?_); intro w2 hS2)
  go_ret
  exact ⟨rfl, hS2.b⟩
 | some v =>
  rw [hf] at CF
  have HF := hid CF
  clear CF hf
  cases hd : decide ((v.1 : Int) ≤ n)
  all_goals
   go_enter Tryz.func62, Tryz.ntmps62
   go_wp2_with fail
   refine (HF.out _ (hR.below hS.b) (hL.below hS.b)).mono ?_
   rintro e w1 ⟨rfl, b1⟩
   have hS1 := (hS.mono b1).box (.cells #[.int .i64 0, .int .i64 0] 137)
   go_wp2_with (first | (((with_reducible refine wpList_stoR (us := meC v) 0 wU wU (hS1) wU kR wU wU ?_); intro w2 hS2); have q2 := (hS2.blk 0 rfl).1) | (with_reducible refine wpList_ldB F_int wU wU q2 wU ?_))
   go_ret
   exact ⟨by show _ = Ending.returned (.bool (decide ((v.1 : Int) ≤ n))); rw [hd]; rfl, hS2.b⟩

theorem after_any (m : MacV) (ad : Option Addr) (cap : Nat) (s n : Int) (w : World) (hR : Ints w ad cap m.sw) (hg : m.gears ≤ 16) (h0 : 0 ≤ s) (h1 : s < 4 * m.gears) (n0 : 0 ≤ n) (n1 : n ≤ 9223372036854775807) :
  Calls Tryz.prog 72 #[mV m ad cap, .int .i64 s, .int .i64 n] w fun r w' => r = .returned (.int .i64 (itM m s n.toNat)) ∧ Below w.heap.size w w' := by
 obtain ⟨d, hd⟩ := ordM h0 h1
 have hd0 := hd.pos
 have hdl := hd.le
 rw [permM_len] at hdl
 have hd64 : d ≤ 64 := by omega
 have CN := fun (k : Nat) w (h : Ints w ad cap m.sw) => mnext_any m ad cap (itM m s k) w h hg (itM_rng h0 h1 k).1 (itM_rng h0 h1 k).2
 have CE := fun (k : Nat) => itM_succ h0 h1 k
 have hback : itM m s d = s := hd.back
 have hmin : ∀ k, 0 < k → k < d → itM m s k ≠ s := fun k a b => hd.min k a b
 have hmod := itM_mod hd n.toNat
 have hmd : n.tmod d = ((n.toNat % d : Nat) : Int) := by
  rw [Int.tmod_eq_emod_of_nonneg n0]
  obtain ⟨k, rfl⟩ : ∃ k : Nat, n = k := ⟨n.toNat, by omega⟩
  simp
 obtain ⟨r, hr⟩ : ∃ r, r = n.toNat % d := ⟨_, rfl⟩
 rw [← hr] at hmod hmd
 have hrd : r < d := by rw [hr]; exact Nat.mod_lt _ hd0
 have hs0 : itM m s 0 = s := rfl
 have hS := (SL.nil w).box (.cells (mC m ad cap) 24)
 have HN := hid CN; have HE := hid CE; have HB := hid hback; have HM := hid hmin; have HO := hid hmod
 clear CN CE hback hmin hmod hd hdl hr
 rw [← HO.out]
 have CZ := HN.out 0
 rw [hs0, ← hs0, ← HE.out 0, hs0] at CZ
 have HZ := hid CZ
 clear CZ
 go_enter Tryz.func72, Tryz.ntmps72
 go_wp2_with fail
 have q1 := (hS.blk 0 rfl).1
 refine (HZ.out _ (hR.below hS.b)).mono ?_
 rintro e w1 ⟨rfl, b1⟩
 have hS1 := hS.mono b1
 clear q1
 go_wp2_with fail
 go_loopw [7, 8] (fun n x wr => ∃ k : Nat, 1 ≤ k ∧ k ≤ d ∧ n = .int .i64 k ∧ x = .int .i64 (itM m s k) ∧ SL w.heap.size w wr [pBlk w.heap.size (.cells (mC m ad cap) 24)]) (fun n _ _ => d - (intOf n).toNat)
 case atStart => exact ⟨1, by omega, by omega, rfl, rfl, hS1⟩
 case round =>
  clear hS hS1
  obtain ⟨k, hk1, hk2, rfl, rfl, hSr⟩ := hrel
  by_cases hkd : k < d
  ·have hne : (itM m s k != s) = true := by simpa using HM.out k (by omega) hkd
   have q1 := (hSr.blk 0 rfl).1
   have C := fun w h => HN.out k w h
   rw [← HE.out k] at C
   have HC := hid C
   clear C
   go_wp2_with (with_reducible refine wpList_ldS (n := 4) (us := mC m ad cap) A_mach kR wU wU (by assumption) wU wU ?_)
   refine (HC.out _ (hR.below hSr.b)).mono ?_
   rintro e w2 ⟨rfl, b2⟩
   have hS2 := hSr.mono b2
   go_wp2_with fail
   exact ⟨⟨k + 1, by omega, by omega, by go_num, rfl, hS2⟩, by simp [intOf]; omega⟩
  ·have hkk : k = d := by omega
   subst hkk
   rw [HB.out]
   have hne : (s != s) = false := by simp
   have hz : ((k : Int) == 0) = false := by simp; omega
   go_wp2_with fail
   go_loopw [1, 23] (fun x i wq => ∃ j : Nat, j ≤ r ∧ i = .int .i64 j ∧ x = .int .i64 (itM m s j) ∧ SL w.heap.size w wq [pBlk w.heap.size (.cells (mC m ad cap) 24)]) (fun _ i _ => r - (intOf i).toNat)
   case atStart => exact ⟨0, by omega, rfl, rfl, hSr⟩
   case round =>
    clear hSr
    obtain ⟨j, hj, rfl, rfl, hSq⟩ := hrel
    by_cases hjr : j < r
    ·have q1 := (hSq.blk 0 rfl).1
     have C := fun w h => HN.out j w h
     rw [← HE.out j] at C
     have HC := hid C
     clear C
     go_wp2_with (with_reducible refine wpList_ldS (n := 4) (us := mC m ad cap) A_mach kR wU wU (by assumption) wU wU ?_)
     refine (HC.out _ (hR.below hSq.b)).mono ?_
     rintro e w2 ⟨rfl, b2⟩
     have hS2 := hSq.mono b2
     go_wp2_with fail
     exact ⟨⟨j + 1, by omega, by go_num, rfl, hS2⟩, by simp [intOf]; omega⟩
    ·have hjj : j = r := by omega
     subst hjj
     go_wp2_with fail
     go_ret
     exact ⟨rfl, hSq.b⟩
end Go.Proofs.YtoebgfgihfjnnaaGreatDoor

namespace Go.Proofs.YtoebgfgihfjnnaaGreatDoor
open Go.RowKit
set_option maxHeartbeats 8000000
set_option maxRecDepth 100000

def ChkM (m : MacV) (ad : Option Addr) (cap : Nat) : Prop := ∀ w, Ints w ad cap m.sw → Calls Tryz.prog 81 #[mV m ad cap] w fun r w' => r = .returned (.int .i64 (macE m)) ∧ Below w.heap.size w w'
/-- the error of a load. -/
def loadGo (m : MacV) : List Int → List Int → Int
 | _, [] => 0
 | pre, s :: r => if s < 0 ∨ 4 * m.gears ≤ s then 10 else if s ∈ pre then 9 else loadGo m (pre ++ [s]) r
def loadE (m : MacV) (l : List Int) : Int := if macE m ≠ 0 then macE m else if 4 * m.gears < l.length then 5 else loadGo m [] l
def ChkL (m : MacV) (ad : Option Addr) (cap : Nat) (al : Option Addr) (cl : Nat) (l : List Int) : Prop := ∀ w, Ints w ad cap m.sw → Ints w al cl l →
 Calls Tryz.prog 60 #[mV m ad cap, .slice al l.length cl] w fun r w' => r = .returned (.int .i64 (loadE m l)) ∧ Below w.heap.size w w'

theorem mPerm_any (m : MacV) (ad : Option Addr) (cap : Nat) (w : World) (hR : Ints w ad cap m.sw) (HK : ChkM m ad cap) :
  Calls Tryz.prog 40 #[mV m ad cap] w fun r w' => ∃ v, r = .returned (.tuple #[v, .int .i64 (macE m)]) ∧ OwnI w.heap.size w' v (if macE m = 0 then permM m else []) ∧ Below w.heap.size w w' := by
 have hS := (SL.nil w).box (.cells (mC m ad cap) 24)
 have HC := hid HK
 by_cases he : macE m = 0
 ·have hok := (macE_zero he).1
  have CP := fun w h => mperm_any m ad cap w h hok.lo hok.hi
  have HP := hid CP
  rw [if_pos he]
  unfold ChkM at HK
  rw [he] at HK ⊢
  have HC := hid HK
  clear CP HK he hok
  go_enter Tryz.func40, Tryz.ntmps40
  go_wp2_with fail
  refine (HC.out _ (hR.below hS.b)).mono ?_
  rintro e w1 ⟨rfl, b1⟩
  have hS1 := hS.mono b1
  have q1 := (hS1.blk 0 rfl).1
  go_wp2_with (with_reducible refine wpList_ldS (n := 4) (us := mC m ad cap) A_mach kR wU wU (by assumption) wU wU ?_)
  refine (HP.out _ (hR.below hS1.b)).mono ?_
  rintro e w2 ⟨v, rfl, ho, b2⟩
  go_wp2_with fail
  go_ret2
  exact ⟨_, rfl, ho.mono hS1.b.size, bnext hS1.b b2⟩
 ·have hne : (macE m != 0) = true := by simpa using he
  obtain ⟨E, hE⟩ : ∃ E, E = macE m := ⟨_, rfl⟩
  rw [if_neg he]
  unfold ChkM at HK
  rw [← hE] at HK hne ⊢
  have HC := hid HK
  clear HK he hE
  go_enter Tryz.func40, Tryz.ntmps40
  go_wp2_with fail
  refine (HC.out _ (hR.below hS.b)).mono ?_
  rintro e w1 ⟨rfl, b1⟩
  have hS1 := hS.mono b1
  go_wp2_with fail
  go_ret2
  exact ⟨_, rfl, own_nil cIntS, hS1.b⟩

theorem mPeriod_any (m : MacV) (ad : Option Addr) (cap : Nat) (w : World) (hR : Ints w ad cap m.sw) (HK : ChkM m ad cap) (hIt : ∀ w', Below w.heap.size w w' → ItoaOk w' (periodN (permM m))) :
  Calls Tryz.prog 42 #[mV m ad cap] w fun r w' => r = .returned (.tuple #[.string (if macE m = 0 then perS (permM m) else ⟨#[]⟩), .int .i64 (macE m)]) ∧ Below w.heap.size w w' := by
 have hS := (SL.nil w).box (.cells (mC m ad cap) 24)
 by_cases he : macE m = 0
 ·have hok := (macE_zero he).1
  have hlo := hok.lo
  have hhi := hok.hi
  have CP := fun w h => mperm_any m ad cap w h hok.lo hok.hi
  have HP := hid CP
  have hpl := permM_len m
  have hpe : permE (permM m) = 0 := permE_ok (permM_isP m) (by omega)
  have CQ := fun a c w h h2 => Period_any a c (permM m) w h (by
   intro x hx
   obtain ⟨i, hi, rfl⟩ := List.mem_iff_getElem.1 hx
   have h1 := (permM_isP m).1 i (by omega) (by omega)
   have e : atD 0 (permM m) i = (permM m)[i] := by simp [atD, hi]
   rw [e] at h1
   unfold InI; omega) (by omega) (fun _ => h2)
  rw [hpe] at CQ
  obtain ⟨S, hSS⟩ : ∃ S, S = perS (permM m) := ⟨_, rfl⟩
  rw [← hSS] at CQ ⊢
  rw [if_pos he]
  unfold ChkM at HK
  rw [he] at HK ⊢
  have HC := hid HK; have HQ := hid CQ
  clear CP HK he hok CQ hSS hpe
  go_enter Tryz.func42, Tryz.ntmps42
  go_wp2_with fail
  refine (HC.out _ (hR.below hS.b)).mono ?_
  rintro e w1 ⟨rfl, b1⟩
  have hS1 := hS.mono b1
  have q1 := (hS1.blk 0 rfl).1
  go_wp2_with (with_reducible refine wpList_ldS (n := 4) (us := mC m ad cap) A_mach kR wU wU (by assumption) wU wU ?_)
  refine (HP.out _ (hR.below hS1.b)).mono ?_
  rintro e w2 ⟨v, rfl, ho, b2⟩
  obtain ⟨ap, cp, rfl, hp, _, _⟩ := ho.reps
  have t2 := bnext hS1.b b2
  have HI := hid (hIt _ t2)
  clear hIt
  obtain ⟨P, hP⟩ : ∃ P, P = permM m := ⟨_, rfl⟩
  rw [← hP] at hp HI HQ ⊢
  clear hP
  go_wp2_with fail
  refine (HQ.out _ _ _ hp HI.out).mono ?_
  rintro e w3 ⟨rfl, b3⟩
  go_wp2_with fail
  go_ret2
  exact ⟨rfl, bnext t2 b3⟩
 ·have hne : (macE m != 0) = true := by simpa using he
  obtain ⟨E, hE⟩ : ∃ E, E = macE m := ⟨_, rfl⟩
  rw [if_neg he]
  unfold ChkM at HK
  rw [← hE] at HK hne ⊢
  have HC := hid HK
  clear HK he hE
  go_enter Tryz.func42, Tryz.ntmps42
  go_wp2_with fail
  refine (HC.out _ (hR.below hS.b)).mono ?_
  rintro e w1 ⟨rfl, b1⟩
  have hS1 := hS.mono b1
  go_wp2_with fail
  go_ret2
  exact ⟨rfl, hS1.b⟩
end Go.Proofs.YtoebgfgihfjnnaaGreatDoor

namespace Go.Proofs.YtoebgfgihfjnnaaGreatDoor
open Go.RowKit
set_option maxHeartbeats 8000000
set_option maxRecDepth 100000

/-- the slots as an int, of any gears. -/
theorem slotsW_any (m : MacV) (ad : Option Addr) (cap : Nat) : ∃ z : Int, (0 ≤ m.gears → m.gears ≤ 16 → z = 4 * m.gears) ∧ ∀ w,
  Calls Tryz.prog 96 #[mV m ad cap] w fun r w' => r = .returned (.int .i64 z) ∧ Below w.heap.size w w' := by
 refine ⟨wrap64 (4 * m.gears), fun h0 h1 => IntWalk.wrap64_in _ (by omega), fun w => ?_⟩
 go_enter Tryz.func96, Tryz.ntmps96
 go_wp2_with fail
 go_ret
 exact ⟨rfl, bal (Below.refl _ _) _⟩

theorem loadGo_step (m : MacV) {l : List Int} {k : Nat} (h : k < l.length) : loadGo m (l.take k) (l.drop k) = if atD 0 l k < 0 ∨ 4 * m.gears ≤ atD 0 l k then 10 else if atD 0 l k ∈ l.take k then 9 else loadGo m (l.take (k + 1)) (l.drop (k + 1)) := by
 rw [take_snoc h]
 conv => lhs; rw [List.drop_eq_getElem_cons h]
 rw [loadGo]
 have e : atD 0 l k = l[k] := by simp [atD, h]
 rw [e]

theorem CheckLoad_any (m : MacV) (ad : Option Addr) (cap : Nat) (al : Option Addr) (cl : Nat) (l : List Int) (HK : ChkM m ad cap) : ChkL m ad cap al cl l := by
 intro w hR hL
 have hcap := hL.le
 have hmx := hL.max
 obtain ⟨z, hz, HZ⟩ := slotsW_any m ad cap
 have hS := (SL.nil w).box (.cells (mC m ad cap) 24)
 have q1 := (hS.blk 0 rfl).1
 have R1 := hR.below hS.b
 by_cases he : macE m = 0
 ·have hok := (macE_zero he).1
  have hlo := hok.lo
  have hhi := hok.hi
  have hz2 := hz (by omega) (by omega)
  subst hz2
  unfold ChkM at HK
  rw [he] at HK
  by_cases hb : 4 * m.gears < l.length
  ·have hv : loadE m l = 5 := by unfold loadE; rw [if_neg (by simp [he]), if_pos hb]
   have HV := hid hv
   have hbd : decide (4 * m.gears < (l.length : Int)) = true := decide_eq_true hb
   clear hv he hok hz hb
   go_enter Tryz.func60, Tryz.ntmps60
   go_wp2_with fail
   refine wp_region_qt 8 kR kR ?_
   simp only [List.take_succ_cons, List.take_zero, List.drop_succ_cons, List.drop_zero]
   repeat (first | ((with_reducible refine wpB_loadS (n := 4) (us := mC m ad cap) A_mach kR wU wU (by assumption) wU wU ?_); (try simp only [Act.put, pA, pB, pC])) | ((refine wpB_call (.int .i64 0) wU (fun w' => ?_) (fun w' hw' => HK w' (R1.below hw')) ?_); (focus (go_simp; done)); (try simp only [Act.put, pA, pB, pC])) | ((refine wpB_call (.int .i64 (4 * m.gears)) wU (fun w' => ?_) (fun w' hw' => HZ w') ?_); (focus (go_simp; done)); (try simp only [Act.put, pA, pB, pC])) | ((with_reducible refine wpB_when wU wU wU ?_); (try simp only [Act.put, pA, pB, pC])) |  ((with_reducible refine wpB_load (by first | exact F_int | exact F_u64s) wU wU (by assumption) wU ?_); (try simp only [Act.put, pA, pB, pC])) | ((refine wpQ_oneG ?_ wU (fun w' => ?_) ?_); rotate_left; (go_simp; rfl); (try simp only [Act.put, pA, pB, pC])))
   refine wpQuiet_nil ?_
   intro w1 hb1
   have hS1 := hS.mono hb1
   go_wp2_with (go_at_call 59; refine (mfirst_any _ _ [_, _] _ (reps_newN cIntS [_, _] 2 rfl (by decide) _ _ (by simp) rfl)).mono ?_; rw [firstE_z, firstE_head (by decide)]; rintro e w' ⟨rfl, rfl⟩)
   go_ret
   exact ⟨by rw [HV.out]; rfl, bal hS1.b _⟩
  ·have hv : loadE m l = loadGo m [] l := by unfold loadE; rw [if_neg (by simp [he]), if_neg hb]
   have HV := hid hv
   have hbd : decide (4 * m.gears < (l.length : Int)) = false := decide_eq_false hb
   clear hv he hok hz hb
   go_enter Tryz.func60, Tryz.ntmps60
   go_wp2_with fail
   refine wp_region_qt 8 kR kR ?_
   simp only [List.take_succ_cons, List.take_zero, List.drop_succ_cons, List.drop_zero]
   repeat (first | ((with_reducible refine wpB_loadS (n := 4) (us := mC m ad cap) A_mach kR wU wU (by assumption) wU wU ?_); (try simp only [Act.put, pA, pB, pC])) | ((refine wpB_call (.int .i64 0) wU (fun w' => ?_) (fun w' hw' => HK w' (R1.below hw')) ?_); (focus (go_simp; done)); (try simp only [Act.put, pA, pB, pC])) | ((refine wpB_call (.int .i64 (4 * m.gears)) wU (fun w' => ?_) (fun w' hw' => HZ w') ?_); (focus (go_simp; done)); (try simp only [Act.put, pA, pB, pC])) | ((with_reducible refine wpB_when wU wU wU ?_); (try simp only [Act.put, pA, pB, pC])) |  ((with_reducible refine wpB_load (by first | exact F_int | exact F_u64s) wU wU (by assumption) wU ?_); (try simp only [Act.put, pA, pB, pC])) | ((refine wpQ_oneG ?_ wU (fun w' => ?_) ?_); rotate_left; (go_simp; rfl); (try simp only [Act.put, pA, pB, pC])))
   refine wpQuiet_nil ?_
   intro w1 hb1
   have hS1 := hS.mono hb1
   go_wp2_with (go_at_call 59; refine (mfirst_any _ _ [_, _] _ (reps_newN cIntS [_, _] 2 rfl (by decide) _ _ (by simp) rfl)).mono ?_; rw [firstE_z, firstE_z, firstE_nil]; rintro e w' ⟨rfl, rfl⟩)
   have hS2 := hS1.al (.cells #[.int .i64 0, .int .i64 0] 29)
   clear hS hS1 q1 R1 hb1
   go_loopw [24] (fun i wr => ∃ k : Nat, k ≤ l.length ∧ i = .int .i64 k ∧ loadGo m (l.take k) (l.drop k) = loadGo m [] l ∧ SL w.heap.size w wr [pBlk w.heap.size (.cells (mC m ad cap) 24)]) (fun i _ => l.length - (intOf i).toNat)
   case atStart => exact ⟨0, by omega, rfl, rfl, hS2⟩
   case round =>
    clear hS2
    obtain ⟨k, hk, rfl, hgo, hSr⟩ := hrel
    have hLr := hL.below hSr.b
    by_cases hlt : k < l.length
    ·have hst := loadGo_step m hlt
     rw [hgo] at hst
     obtain ⟨x, hx⟩ : ∃ x, x = atD 0 l k := ⟨_, rfl⟩
     rw [← hx] at hst
     have HX := hid hx
     clear hx hgo
     have hkcl : k ≤ cl := by omega
     have hLk := intsTake hLr (m := k) (by omega)
     have hkl : (l.take k).length = k := by simp; omega
     have CC := fun w h => sContains_any al cl (l.take k) x w h
     rw [hkl] at CC
     clear hkl
     have q1 := (hSr.blk 0 rfl).1
     by_cases c1 : x < 0
     ·have d1 : decide (x < 0) = true := decide_eq_true c1
      rw [if_pos (.inl c1)] at hst
      have HST := hid hst
      clear hst
      cases hc : (l.take k).contains x
      all_goals
       rw [hc] at CC
       have HC := hid CC
       clear CC hc
      ·go_wp2_with ((with_reducible refine wpList_idx _ 0 E_ints F_int cInt1 wU wU (hLr) oD oD (fun _ => wU) (fun _ => ?_)); rw [← HX.out])
       refine wp_region_qt 15 kR kR ?_
       simp only [List.take_succ_cons, List.take_zero, List.drop_succ_cons, List.drop_zero]
       repeat (first | ((with_reducible refine wpB_loadS (n := 4) (us := mC m ad cap) A_mach kR wU wU (by assumption) wU wU ?_); (try simp only [Act.put, pA, pB, pC])) | ((refine wpB_call (.int .i64 (4 * m.gears)) wU (fun w' => ?_) (fun w' hw' => HZ w') ?_); (focus (go_simp; done)); (try simp only [Act.put, pA, pB, pC])) | ((refine wpB_call (.bool false) wU (fun w' => ?_) (fun w' hw' => calls_below (HC.out w' (hLk.below hw'))) ?_); (focus (go_simp; done)); (try simp only [Act.put, pA, pB, pC])) | ((with_reducible refine wpB_when wU wU wU ?_); (try simp only [Act.put, pA, pB, pC])) | ((with_reducible refine wpQ_skip wU ?_); (try simp only [Act.put, pA, pB, pC])) |  ((with_reducible refine wpB_load (by first | exact F_int | exact F_u64s) wU wU (by assumption) wU ?_); (try simp only [Act.put, pA, pB, pC])) | ((refine wpQ_oneG ?_ wU (fun w' => ?_) ?_); rotate_left; (go_simp; rfl); (try simp only [Act.put, pA, pB, pC])))
       refine wpQuiet_nil ?_
       intro w4 hb4
       have hS4 := hSr.mono hb4
       go_wp2_with (go_at_call 59; refine (mfirst_any _ _ [_, _] _ (reps_newN cIntS [_, _] 2 rfl (by decide) _ _ (by simp) rfl)).mono ?_; rw [firstE_head (by decide)]; rintro e w' ⟨rfl, rfl⟩)
       go_ret
       exact ⟨by rw [HV.out, HST.out]; rfl, bal hS4.b _⟩
      ·go_wp2_with ((with_reducible refine wpList_idx _ 0 E_ints F_int cInt1 wU wU (hLr) oD oD (fun _ => wU) (fun _ => ?_)); rw [← HX.out])
       refine wp_region_qt 15 kR kR ?_
       simp only [List.take_succ_cons, List.take_zero, List.drop_succ_cons, List.drop_zero]
       repeat (first | ((with_reducible refine wpB_loadS (n := 4) (us := mC m ad cap) A_mach kR wU wU (by assumption) wU wU ?_); (try simp only [Act.put, pA, pB, pC])) | ((refine wpB_call (.int .i64 (4 * m.gears)) wU (fun w' => ?_) (fun w' hw' => HZ w') ?_); (focus (go_simp; done)); (try simp only [Act.put, pA, pB, pC])) | ((refine wpB_call (.bool true) wU (fun w' => ?_) (fun w' hw' => calls_below (HC.out w' (hLk.below hw'))) ?_); (focus (go_simp; done)); (try simp only [Act.put, pA, pB, pC])) | ((with_reducible refine wpB_when wU wU wU ?_); (try simp only [Act.put, pA, pB, pC])) | ((with_reducible refine wpQ_skip wU ?_); (try simp only [Act.put, pA, pB, pC])) |  ((with_reducible refine wpB_load (by first | exact F_int | exact F_u64s) wU wU (by assumption) wU ?_); (try simp only [Act.put, pA, pB, pC])) | ((refine wpQ_oneG ?_ wU (fun w' => ?_) ?_); rotate_left; (go_simp; rfl); (try simp only [Act.put, pA, pB, pC])))
       refine wpQuiet_nil ?_
       intro w4 hb4
       have hS4 := hSr.mono hb4
       go_wp2_with (go_at_call 59; refine (mfirst_any _ _ [_, _] _ (reps_newN cIntS [_, _] 2 rfl (by decide) _ _ (by simp) rfl)).mono ?_; rw [firstE_head (by decide)]; rintro e w' ⟨rfl, rfl⟩)
       go_ret
       exact ⟨by rw [HV.out, HST.out]; rfl, bal hS4.b _⟩
     have d1 : decide (x < 0) = false := decide_eq_false c1
     by_cases c2 : 4 * m.gears ≤ x
     ·have d2 : decide (4 * m.gears ≤ x) = true := decide_eq_true c2
      rw [if_pos (.inr c2)] at hst
      have HST := hid hst
      clear hst
      cases hc : (l.take k).contains x
      all_goals
       rw [hc] at CC
       have HC := hid CC
       clear CC hc
      ·go_wp2_with ((with_reducible refine wpList_idx _ 0 E_ints F_int cInt1 wU wU (hLr) oD oD (fun _ => wU) (fun _ => ?_)); rw [← HX.out])
       refine wp_region_qt 15 kR kR ?_
       simp only [List.take_succ_cons, List.take_zero, List.drop_succ_cons, List.drop_zero]
       repeat (first | ((with_reducible refine wpB_loadS (n := 4) (us := mC m ad cap) A_mach kR wU wU (by assumption) wU wU ?_); (try simp only [Act.put, pA, pB, pC])) | ((refine wpB_call (.int .i64 (4 * m.gears)) wU (fun w' => ?_) (fun w' hw' => HZ w') ?_); (focus (go_simp; done)); (try simp only [Act.put, pA, pB, pC])) | ((refine wpB_call (.bool false) wU (fun w' => ?_) (fun w' hw' => calls_below (HC.out w' (hLk.below hw'))) ?_); (focus (go_simp; done)); (try simp only [Act.put, pA, pB, pC])) | ((with_reducible refine wpB_when wU wU wU ?_); (try simp only [Act.put, pA, pB, pC])) | ((with_reducible refine wpQ_skip wU ?_); (try simp only [Act.put, pA, pB, pC])) |  ((with_reducible refine wpB_load (by first | exact F_int | exact F_u64s) wU wU (by assumption) wU ?_); (try simp only [Act.put, pA, pB, pC])) | ((refine wpQ_oneG ?_ wU (fun w' => ?_) ?_); rotate_left; (go_simp; rfl); (try simp only [Act.put, pA, pB, pC])))
       refine wpQuiet_nil ?_
       intro w4 hb4
       have hS4 := hSr.mono hb4
       go_wp2_with (go_at_call 59; refine (mfirst_any _ _ [_, _] _ (reps_newN cIntS [_, _] 2 rfl (by decide) _ _ (by simp) rfl)).mono ?_; rw [firstE_head (by decide)]; rintro e w' ⟨rfl, rfl⟩)
       go_ret
       exact ⟨by rw [HV.out, HST.out]; rfl, bal hS4.b _⟩
      ·go_wp2_with ((with_reducible refine wpList_idx _ 0 E_ints F_int cInt1 wU wU (hLr) oD oD (fun _ => wU) (fun _ => ?_)); rw [← HX.out])
       refine wp_region_qt 15 kR kR ?_
       simp only [List.take_succ_cons, List.take_zero, List.drop_succ_cons, List.drop_zero]
       repeat (first | ((with_reducible refine wpB_loadS (n := 4) (us := mC m ad cap) A_mach kR wU wU (by assumption) wU wU ?_); (try simp only [Act.put, pA, pB, pC])) | ((refine wpB_call (.int .i64 (4 * m.gears)) wU (fun w' => ?_) (fun w' hw' => HZ w') ?_); (focus (go_simp; done)); (try simp only [Act.put, pA, pB, pC])) | ((refine wpB_call (.bool true) wU (fun w' => ?_) (fun w' hw' => calls_below (HC.out w' (hLk.below hw'))) ?_); (focus (go_simp; done)); (try simp only [Act.put, pA, pB, pC])) | ((with_reducible refine wpB_when wU wU wU ?_); (try simp only [Act.put, pA, pB, pC])) | ((with_reducible refine wpQ_skip wU ?_); (try simp only [Act.put, pA, pB, pC])) |  ((with_reducible refine wpB_load (by first | exact F_int | exact F_u64s) wU wU (by assumption) wU ?_); (try simp only [Act.put, pA, pB, pC])) | ((refine wpQ_oneG ?_ wU (fun w' => ?_) ?_); rotate_left; (go_simp; rfl); (try simp only [Act.put, pA, pB, pC])))
       refine wpQuiet_nil ?_
       intro w4 hb4
       have hS4 := hSr.mono hb4
       go_wp2_with (go_at_call 59; refine (mfirst_any _ _ [_, _] _ (reps_newN cIntS [_, _] 2 rfl (by decide) _ _ (by simp) rfl)).mono ?_; rw [firstE_head (by decide)]; rintro e w' ⟨rfl, rfl⟩)
       go_ret
       exact ⟨by rw [HV.out, HST.out]; rfl, bal hS4.b _⟩
     have d2 : decide (4 * m.gears ≤ x) = false := decide_eq_false c2
     rw [if_neg (by omega)] at hst
     by_cases c3 : x ∈ l.take k
     ·have hc : (l.take k).contains x = true := by simpa using c3
      rw [if_pos c3] at hst
      rw [hc] at CC
      have HC := hid CC; have HST := hid hst
      clear CC hc c3 hst
      go_wp2_with ((with_reducible refine wpList_idx _ 0 E_ints F_int cInt1 wU wU (hLr) oD oD (fun _ => wU) (fun _ => ?_)); rw [← HX.out])
      refine wp_region_qt 15 kR kR ?_
      simp only [List.take_succ_cons, List.take_zero, List.drop_succ_cons, List.drop_zero]
      repeat (first | ((with_reducible refine wpB_loadS (n := 4) (us := mC m ad cap) A_mach kR wU wU (by assumption) wU wU ?_); (try simp only [Act.put, pA, pB, pC])) | ((refine wpB_call (.int .i64 (4 * m.gears)) wU (fun w' => ?_) (fun w' hw' => HZ w') ?_); (focus (go_simp; done)); (try simp only [Act.put, pA, pB, pC])) | ((refine wpB_call (.bool true) wU (fun w' => ?_) (fun w' hw' => calls_below (HC.out w' (hLk.below hw'))) ?_); (focus (go_simp; done)); (try simp only [Act.put, pA, pB, pC])) | ((with_reducible refine wpB_when wU wU wU ?_); (try simp only [Act.put, pA, pB, pC])) | ((with_reducible refine wpQ_skip wU ?_); (try simp only [Act.put, pA, pB, pC])) |  ((with_reducible refine wpB_load (by first | exact F_int | exact F_u64s) wU wU (by assumption) wU ?_); (try simp only [Act.put, pA, pB, pC])) | ((refine wpQ_oneG ?_ wU (fun w' => ?_) ?_); rotate_left; (go_simp; rfl); (try simp only [Act.put, pA, pB, pC])))
      refine wpQuiet_nil ?_
      intro w4 hb4
      have hS4 := hSr.mono hb4
      go_wp2_with (go_at_call 59; refine (mfirst_any _ _ [_, _] _ (reps_newN cIntS [_, _] 2 rfl (by decide) _ _ (by simp) rfl)).mono ?_; rw [firstE_z, firstE_head (by decide)]; rintro e w' ⟨rfl, rfl⟩)
      go_ret
      exact ⟨by rw [HV.out, HST.out]; rfl, bal hS4.b _⟩
     ·have hc : (l.take k).contains x = false := by simpa using c3
      rw [if_neg c3] at hst
      rw [hc] at CC
      have HC := hid CC; have HST := hid hst
      clear CC hc c3 hst
      go_wp2_with ((with_reducible refine wpList_idx _ 0 E_ints F_int cInt1 wU wU (hLr) oD oD (fun _ => wU) (fun _ => ?_)); rw [← HX.out])
      refine wp_region_qt 15 kR kR ?_
      simp only [List.take_succ_cons, List.take_zero, List.drop_succ_cons, List.drop_zero]
      repeat (first | ((with_reducible refine wpB_loadS (n := 4) (us := mC m ad cap) A_mach kR wU wU (by assumption) wU wU ?_); (try simp only [Act.put, pA, pB, pC])) | ((refine wpB_call (.int .i64 (4 * m.gears)) wU (fun w' => ?_) (fun w' hw' => HZ w') ?_); (focus (go_simp; done)); (try simp only [Act.put, pA, pB, pC])) | ((refine wpB_call (.bool false) wU (fun w' => ?_) (fun w' hw' => calls_below (HC.out w' (hLk.below hw'))) ?_); (focus (go_simp; done)); (try simp only [Act.put, pA, pB, pC])) | ((with_reducible refine wpB_when wU wU wU ?_); (try simp only [Act.put, pA, pB, pC])) | ((with_reducible refine wpQ_skip wU ?_); (try simp only [Act.put, pA, pB, pC])) |  ((with_reducible refine wpB_load (by first | exact F_int | exact F_u64s) wU wU (by assumption) wU ?_); (try simp only [Act.put, pA, pB, pC])) | ((refine wpQ_oneG ?_ wU (fun w' => ?_) ?_); rotate_left; (go_simp; rfl); (try simp only [Act.put, pA, pB, pC])))
      refine wpQuiet_nil ?_
      intro w4 hb4
      have hS4 := hSr.mono hb4
      go_wp2_with (go_at_call 59; refine (mfirst_any _ _ [_, _] _ (reps_newN cIntS [_, _] 2 rfl (by decide) _ _ (by simp) rfl)).mono ?_; rw [firstE_z, firstE_z, firstE_nil]; rintro e w' ⟨rfl, rfl⟩)
      exact ⟨⟨k + 1, by omega, by go_num, HST.out.symm, hS4.al _⟩, by simp [intOf]; omega⟩
    ·have hkk : k = l.length := by omega
     subst hkk
     have e : loadGo m (l.take l.length) (l.drop l.length) = 0 := by rw [List.drop_length]; rfl
     rw [e] at hgo
     have HG := hid hgo
     clear hgo e
     go_wp2_with fail
     go_ret
     exact ⟨by rw [HV.out, ← HG.out]; rfl, hSr.b⟩
 ·have hv : loadE m l = macE m := by unfold loadE; rw [if_pos he]
  unfold ChkM at HK
  obtain ⟨E, hE⟩ : ∃ E, E = macE m := ⟨_, rfl⟩
  rw [← hE] at HK hv he
  have HV := hid hv
  have hne : (E != 0) = true := by simpa using he
  clear hv hE hz
  cases hb : decide (z < (l.length : Int))
  all_goals
   go_enter Tryz.func60, Tryz.ntmps60
   go_wp2_with fail
   refine wp_region_qt 8 kR kR ?_
   simp only [List.take_succ_cons, List.take_zero, List.drop_succ_cons, List.drop_zero]
   repeat (first | ((with_reducible refine wpB_loadS (n := 4) (us := mC m ad cap) A_mach kR wU wU (by assumption) wU wU ?_); (try simp only [Act.put, pA, pB, pC])) | ((refine wpB_call (.int .i64 E) wU (fun w' => ?_) (fun w' hw' => HK w' (R1.below hw')) ?_); (focus (go_simp; done)); (try simp only [Act.put, pA, pB, pC])) | ((refine wpB_call (.int .i64 z) wU (fun w' => ?_) (fun w' hw' => HZ w') ?_); (focus (go_simp; done)); (try simp only [Act.put, pA, pB, pC])) | ((with_reducible refine wpB_when wU wU wU ?_); (try simp only [Act.put, pA, pB, pC])) |  ((with_reducible refine wpB_load (by first | exact F_int | exact F_u64s) wU wU (by assumption) wU ?_); (try simp only [Act.put, pA, pB, pC])) | ((refine wpQ_oneG ?_ wU (fun w' => ?_) ?_); rotate_left; (go_simp; rfl); (try simp only [Act.put, pA, pB, pC])))
   refine wpQuiet_nil ?_
   intro w1 hb1
   have hS1 := hS.mono hb1
   go_wp2_with (go_at_call 59; refine (mfirst_any _ _ [_, _] _ (reps_newN cIntS [_, _] 2 rfl (by decide) _ _ (by simp) rfl)).mono ?_; rw [firstE_head he]; rintro e w' ⟨rfl, rfl⟩)
   go_ret
   exact ⟨by rw [HV.out]; rfl, bal hS1.b _⟩
end Go.Proofs.YtoebgfgihfjnnaaGreatDoor

namespace Go.Proofs.YtoebgfgihfjnnaaGreatDoor
set_option maxRecDepth 100000
/-- the other slot of a shared place, or -1. -/
def otherM (m : MacV) (s : Int) : Int := if (decide (0 ≤ placeM m s) && sharedM m (placeM m s)) = true then 4 * befM m (placeM m s) + 2 + 4 * placeM m s - s else -1
theorem other_over (m : MacV) (s : Int) : overM m s = if (decide (0 ≤ otherM m s) && !m.sw.contains (placeM m s)) = true then otherM m s else s := by
 unfold overM otherM goesM
 by_cases h : (decide (0 ≤ placeM m s) && sharedM m (placeM m s)) = true
 ·rw [if_pos h]
  have h0 : 0 ≤ 4 * befM m (placeM m s) + 2 + 4 * placeM m s - s ∨ ¬ 0 ≤ 4 * befM m (placeM m s) + 2 + 4 * placeM m s - s := by omega
  rw [h, Bool.true_and]
  rcases h0 with h0 | h0
  ·rw [decide_eq_true h0, Bool.true_and]
  ·exfalso
   simp only [Bool.and_eq_true, decide_eq_true_eq] at h
   obtain ⟨hp, hs⟩ := h
   obtain ⟨_, h1, _⟩ := shared_iff.1 hs
   apply h0
   unfold befM
   unfold placeM at hp h1 ⊢
   split at hp <;> rename_i c
   ·rw [if_pos c] at h1 ⊢; split <;> omega
   ·rw [if_neg c] at h1 ⊢
    split at hp <;> rename_i c2
    ·rw [if_pos c2] at h1 ⊢
     split at hp <;> rename_i c3
     ·rw [if_pos c3] at h1 ⊢; rw [if_pos rfl]; omega
     ·rw [if_neg c3] at h1 ⊢; split <;> omega
    ·omega
 ·rw [if_neg h]
  have : (decide (0 ≤ placeM m s) && sharedM m (placeM m s)) = false := by simpa using h
  rw [this, Bool.false_and]
  simp
/-- in a shared place there are two slots. -/
theorem other_only {m : MacV} {s i : Int} (h0 : 0 ≤ s) (h1 : s < 4 * m.gears) (i0 : 0 ≤ i) (i1 : i < 4 * m.gears) (hp : 0 ≤ placeM m s) (hs : sharedM m (placeM m s) = true) (hne : i ≠ s) (e : placeM m i = placeM m s) : i = otherM m s := by
 unfold otherM
 rw [hs, decide_eq_true hp, if_pos (by rfl)]
 obtain ⟨_, hlt, hr⟩ := shared_iff.1 hs
 obtain ⟨p, hpp⟩ : ∃ p, p = placeM m s := ⟨_, rfl⟩
 rw [← hpp] at e hp hlt hr ⊢
 unfold placeM at hpp e
 unfold befM
 cases hrg : m.ring
 ·simp only [hrg, Bool.false_eq_true, false_and, if_false, false_or] at hpp e hr
  rw [if_neg (by omega)]
  split at hpp <;> split at e <;> first | omega | (split at hpp <;> first | omega | (split at e <;> omega)) | (split at e <;> omega)
 ·simp only [hrg, true_and] at hpp e
  split at hpp <;> split at e <;> split <;> first | omega | (split at hpp <;> first | omega | (split at hpp <;> first | omega | (split at e <;> first | omega | (split at e <;> omega)))) | (split at e <;> first | omega | (split at e <;> omega))
theorem other_is {m : MacV} {s : Int} (h0 : 0 ≤ s) (h1 : s < 4 * m.gears) (hp : 0 ≤ placeM m s) (hs : sharedM m (placeM m s) = true) : 0 ≤ otherM m s ∧ otherM m s < 4 * m.gears ∧ otherM m s ≠ s ∧ placeM m (otherM m s) = placeM m s := by
 have hm : MacV := ⟨m.ring, m.gears, m.turn, []⟩
 have := over_cases (m := ⟨m.ring, m.gears, m.turn, []⟩) h0 h1
 have e1 : ∀ x, placeM ⟨m.ring, m.gears, m.turn, []⟩ x = placeM m x := fun x => rfl
 have e2 : ∀ x, sharedM ⟨m.ring, m.gears, m.turn, []⟩ x = sharedM m x := fun x => rfl
 have e3 : ∀ x, befM ⟨m.ring, m.gears, m.turn, []⟩ x = befM m x := fun x => rfl
 have hg : goesM ⟨m.ring, m.gears, m.turn, []⟩ s = true := by
  unfold goesM
  rw [e1, e2, hs, decide_eq_true hp]
  rfl
 have eo : overM ⟨m.ring, m.gears, m.turn, []⟩ s = otherM m s := by
  unfold overM otherM
  rw [hg, if_pos rfl, e1, e3, hs, decide_eq_true hp]
  rfl
 rcases this with ⟨h, _⟩ | ⟨_, a, b, c, d, _⟩
 ·rw [hg] at h; cases h
 ·rw [eo] at a b c d
  rw [e1, e1] at c
  exact ⟨a, b, d, c⟩
/-- the switch before. -/
def prevO (l : List Int) : Nat → Option Int
 | 0 => none
 | k + 1 => some (atD 0 l k)
theorem swGo_prev (m : MacV) (k : Nat) (h : k < m.sw.length) : swGo m (prevO m.sw k) (m.sw.drop k) = if sharedM m (atD 0 m.sw k) = false then 10 else if 0 < k ∧ atD 0 m.sw k ≤ atD 0 m.sw ((k : Int) - 1) then 11 else swGo m (prevO m.sw (k + 1)) (m.sw.drop (k + 1)) := by
 rw [swGo_step m k h]
 cases k with
 | zero => simp [prevO]
 | succ j =>
  have : ((j + 1 : Nat) : Int) - 1 = j := by omega
  rw [this]
  simp only [prevO, Nat.zero_lt_succ, true_and]
end Go.Proofs.YtoebgfgihfjnnaaGreatDoor

namespace Go.Proofs.YtoebgfgihfjnnaaGreatDoor
open Go.RowKit
set_option maxHeartbeats 2000000
set_option maxRecDepth 100000

theorem A_rmach : Aggr Tryz.prog 25 := ⟨_, Tryz.underlying25, rfl⟩
theorem rOutside_any (n lo hi : Int) (w : World) :
  Calls Tryz.prog 26 #[.int .i64 n, .int .i64 lo, .int .i64 hi] w fun r w' => r = .returned (.bool (decide (n < lo) || decide (hi < n))) ∧ w = w' := by
 by_cases h : n < lo
 ·go_enter Tryz.func26, Tryz.ntmps26
  go_wp2_with fail
  go_ret
  exact ⟨by simp [h], rfl⟩
 ·go_enter Tryz.func26, Tryz.ntmps26
  go_wp2_with fail
  go_ret
  exact ⟨by rw [show decide (n < lo) = false by simpa using h]; rfl, rfl⟩
theorem rShort_any (m : MacV) (ad : Option Addr) (cap : Nat) (al : Option Addr) (cl n : Nat) (w : World) :
  Calls Tryz.prog 12 #[mV m ad cap, .slice al n cl] w fun r w' => r = .returned (.bool (decide (m.sw.length ≤ 19) && decide (n ≤ 67))) ∧ Below w.heap.size w w' := by
 by_cases h : m.sw.length ≤ 19
 ·have h2 : (m.sw.length : Int) ≤ 19 := by omega
  by_cases k : n ≤ 67
  ·have k2 : (n : Int) ≤ 67 := by omega
   go_enter Tryz.func12, Tryz.ntmps12
   go_wp2_with fail
   go_ret
   exact ⟨by simp [h, k, h2, k2], bal (Below.refl _ _) _⟩
  ·have k2 : ¬ (n : Int) ≤ 67 := by omega
   go_enter Tryz.func12, Tryz.ntmps12
   go_wp2_with fail
   go_ret
   exact ⟨by simp [h, k, h2, k2], bal (Below.refl _ _) _⟩
 ·have h2 : ¬ (m.sw.length : Int) ≤ 19 := by omega
  go_enter Tryz.func12, Tryz.ntmps12
  go_wp2_with fail
  go_ret
  exact ⟨by simp [h, h2], bal (Below.refl _ _) _⟩
theorem rSlots_any (m : MacV) (ad : Option Addr) (cap : Nat) (w : World) (h0 : 0 ≤ m.gears) (h1 : m.gears ≤ 16) :
  Calls Tryz.prog 75 #[mV m ad cap] w fun r w' => r = .returned (.int .i64 (4 * m.gears)) ∧ Below w.heap.size w w' := by
 go_enter Tryz.func75, Tryz.ntmps75
 go_wp2_with fail
 go_ret
 exact ⟨rfl, bal (Below.refl _ _) _⟩
theorem rForwards_any (m : MacV) (ad : Option Addr) (cap : Nat) (g : Int) (w : World) (h0 : 0 ≤ g) (h1 : g ≤ 1048576) :
  Calls Tryz.prog 78 #[mV m ad cap, .int .i64 g] w fun r w' => r = .returned (.bool (fwdM m g)) ∧ Below w.heap.size w w' := by
 obtain ⟨q, hq⟩ : ∃ q, q = g % 2 := ⟨_, rfl⟩
 have htm : g.tmod 2 = q := by rw [hq, Int.tmod_eq_emod_of_nonneg h0]
 have hf : fwdM m g = ((m.turn == 1) == (q == 0)) := by unfold fwdM; rw [hq]
 have hq2 : 0 ≤ q ∧ q < 2 := by omega
 have HF := hid hf
 clear hf hq
 go_enter Tryz.func78, Tryz.ntmps78
 go_wp2_with fail
 go_ret
 exact ⟨by rw [HF.out]; rfl, bal (Below.refl _ _) _⟩
theorem rShared_any (m : MacV) (ad : Option Addr) (cap : Nat) (p : Int) (w : World) (h0 : 1 ≤ m.gears) (h1 : m.gears ≤ 16) :
  Calls Tryz.prog 87 #[mV m ad cap, .int .i64 p] w fun r w' => r = .returned (.bool (sharedM m p)) ∧ Below w.heap.size w w' := by
 have hw : IntKind.i64.wrap (m.gears - 1) = m.gears - 1 := IntWalk.i64_in _ (by omega)
 have hS := (SL.nil w).box (.cells (mC m ad cap) 25)
 cases hr : m.ring
 ·have hs : sharedM m p = !(decide (p < 1) || decide (m.gears - 1 < p)) := by
   unfold sharedM
   rw [hr, Bool.eq_iff_iff]
   simp
   omega
  obtain ⟨b, hb⟩ : ∃ b, b = (decide (p < 1) || decide (m.gears - 1 < p)) := ⟨_, rfl⟩
  have CO := fun w => rOutside_any p 1 (m.gears - 1) w
  rw [← hb] at CO hs
  have HS := hid hs; have HO := hid CO
  clear hs CO hb
  unfold mV
  rw [hr]
  clear hr
  go_enter Tryz.func87, Tryz.ntmps87
  go_wp2_with fail
  refine (HO.out _).mono ?_
  rintro e w1 ⟨rfl, rfl⟩
  go_wp2_with fail
  go_ret
  exact ⟨by rw [HS.out]; rfl, bal (Below.refl _ _) _⟩
 ·have hs : sharedM m p = !(decide (p < 0) || decide (m.gears - 1 < p)) := by
   unfold sharedM
   rw [hr, Bool.eq_iff_iff]
   simp
   omega
  obtain ⟨b, hb⟩ : ∃ b, b = (decide (p < 0) || decide (m.gears - 1 < p)) := ⟨_, rfl⟩
  have CO := fun w => rOutside_any p 0 (m.gears - 1) w
  rw [← hb] at CO hs
  have HS := hid hs; have HO := hid CO
  clear hs CO hb
  unfold mV
  rw [hr]
  clear hr
  go_enter Tryz.func87, Tryz.ntmps87
  go_wp2_with fail
  refine (HO.out _).mono ?_
  rintro e w1 ⟨rfl, rfl⟩
  go_wp2_with fail
  go_ret
  exact ⟨by rw [HS.out]; rfl, bal (Below.refl _ _) _⟩
theorem rPlace_any (m : MacV) (ad : Option Addr) (cap : Nat) (s : Int) (w : World) (hg : m.gears ≤ 16) (h0 : 0 ≤ s) (h1 : s < 4 * m.gears) :
  Calls Tryz.prog 51 #[mV m ad cap, .int .i64 s] w fun r w' => r = .returned (.int .i64 (placeM m s)) ∧ Below w.heap.size w w' := by
 obtain ⟨g, hgq⟩ : ∃ g, g = s / 4 := ⟨_, rfl⟩
 obtain ⟨q, hq⟩ : ∃ q, q = s % 4 := ⟨_, rfl⟩
 have htd : s.tdiv 4 = g := by rw [hgq, Int.tdiv_eq_ediv_of_nonneg h0]
 have htm : s.tmod 4 = q := by rw [hq, Int.tmod_eq_emod_of_nonneg h0]
 have hp := place_prog h0 h1
 have hpl : placeM m s = if q = 0 then g else if q = 2 then (if m.ring = true ∧ g + 1 = m.gears then 0 else g + 1) else -1 := by unfold placeM; rw [hq, hgq]
 rw [← hgq] at hp
 have hq4 : q = 0 ∨ q = 1 ∨ q = 2 ∨ q = 3 := by omega
 have hg0 : 0 ≤ g ∧ g < m.gears := by omega
 have hw1 : IntKind.i64.wrap g = g := IntWalk.i64_in _ (by omega)
 have hw2 : IntKind.i64.wrap (g + 1) = g + 1 := IntWalk.i64_in _ (by omega)
 rcases hq4 with rfl | rfl | rfl | rfl
 ·rw [if_pos rfl] at hpl
  have HP := hid hpl
  clear hpl hp hq hgq
  go_enter Tryz.func51, Tryz.ntmps51
  go_wp2_with fail
  go_ret
  exact ⟨by rw [HP.out]; rfl, bal (Below.refl _ _) _⟩
 ·rw [if_neg (by decide), if_neg (by decide)] at hpl
  have HP := hid hpl
  clear hpl hp hq hgq
  go_enter Tryz.func51, Tryz.ntmps51
  go_wp2_with fail
  go_ret
  exact ⟨by rw [HP.out]; rfl, bal (Below.refl _ _) _⟩
 ·rw [if_neg (by decide), if_pos rfl, ← hp] at hpl
  obtain ⟨P, hP⟩ : ∃ P, P = placeM m s := ⟨_, rfl⟩
  rw [← hP] at hpl ⊢
  unfold mV
  cases hr : m.ring
  ·rw [hr] at hpl
   simp only [Bool.false_eq_true, if_false] at hpl
   have e2 : P = g + 1 := by rw [hpl]; exact Int.emod_eq_of_lt (by omega) (by omega)
   have HP := hid e2
   clear hpl hp hq hgq hP e2 hr
   go_enter Tryz.func51, Tryz.ntmps51
   go_wp2_with fail
   go_ret
   exact ⟨by rw [HP.out]; rfl, bal (Below.refl _ _) _⟩
  ·rw [hr] at hpl
   simp only [if_true, Int.add_zero] at hpl
   have hPb : 0 ≤ P ∧ P ≤ 64 := by
    rw [hpl]
    have a := Int.emod_nonneg (g + 1) (b := m.gears) (by omega)
    have b := Int.emod_lt_of_pos (g + 1) (b := m.gears) (by omega)
    omega
   have hmod : (g + 1).tmod m.gears = P := by rw [hpl, Int.tmod_eq_emod_of_nonneg (by omega)]
   have hnz : ¬ m.gears = 0 := by omega
   have hw : IntKind.i64.wrap P = P := IntWalk.i64_in _ (by omega)
   clear hpl hp hq hgq hP hr
   go_enter Tryz.func51, Tryz.ntmps51
   go_wp2_with fail
   go_ret
   exact ⟨rfl, bal (Below.refl _ _) _⟩
 ·rw [if_neg (by decide), if_neg (by decide)] at hpl
  have HP := hid hpl
  clear hpl hp hq hgq
  go_enter Tryz.func51, Tryz.ntmps51
  go_wp2_with fail
  go_ret
  exact ⟨by rw [HP.out]; rfl, bal (Below.refl _ _) _⟩
theorem rSet_any (m : MacV) (ad : Option Addr) (cap : Nat) (p : Int) (w : World) (hR : Ints w ad cap m.sw) :
  Calls Tryz.prog 127 #[mV m ad cap, .int .i64 p] w fun r w' => r = .returned (.bool (m.sw.contains p)) ∧ Below w.heap.size w w' := by
 have hcap := hR.le
 have hmx := hR.max
 have hS := (SL.nil w).box (.cells (mC m ad cap) 25)
 have hlen : m.sw.length ≤ 9223372036854775807 := by have := hR.max; unfold maxLen at this; omega
 go_enter Tryz.func127, Tryz.ntmps127
 go_wp2_with fail
 go_loopw [5] (fun i wr => ∃ k : Nat, k ≤ m.sw.length ∧ i = .int .i64 k ∧ (m.sw.drop k).contains p = m.sw.contains p ∧ SL w.heap.size w wr [pBlk w.heap.size (.cells (mC m ad cap) 25)]) (fun i _ => m.sw.length - (intOf i).toNat)
 case atStart => exact ⟨0, by omega, rfl, by simp, hS⟩
 case round =>
  clear hS
  obtain ⟨k, hk, rfl, hf, hSr⟩ := hrel
  have q1 := (hSr.blk 0 rfl).1
  have hRr := hR.below hSr.b
  by_cases hlt : k < m.sw.length
  ·have hs : (m.sw.drop k).contains p = ((atD 0 m.sw k == p) || (m.sw.drop (k + 1)).contains p) := by
    have e2 : atD 0 m.sw k = m.sw[k] := by simp [atD, hlt]
    rw [List.drop_eq_getElem_cons hlt, e2, List.contains_cons, Bool.beq_comm]
   rw [hf] at hs
   have HS := hid hs
   clear hs hf
   go_wp2_with (first | (with_reducible refine wpList_ldB F_sliceM wU wU q1 wU ?_) | (with_reducible refine wpList_idx _ 0 E_ints F_int cInt1 wU wU (hRr) oD oD (fun _ => wU) (fun _ => ?_)))
   ·have hd : (atD 0 m.sw k == p) = true := by assumption
    go_ret
    exact ⟨by rw [HS.out, hd]; rfl, hSr.b⟩
   ·have hd : (atD 0 m.sw k == p) = false := by assumption
    exact ⟨⟨k + 1, by omega, by go_num, by rw [HS.out, hd]; rfl, hSr⟩, by simp [intOf]; omega⟩
  ·have hkn : k = m.sw.length := by omega
   subst hkn
   rw [List.drop_length] at hf
   have HF := hid hf
   clear hf
   go_wp2_with (with_reducible refine wpList_ldB F_sliceM wU wU q1 wU ?_)
   go_ret
   exact ⟨by rw [← HF.out]; rfl, hSr.b⟩
end Go.Proofs.YtoebgfgihfjnnaaGreatDoor

namespace Go.Proofs.YtoebgfgihfjnnaaGreatDoor
open Go.RowKit
set_option maxHeartbeats 4000000
set_option maxRecDepth 100000

theorem rOther_any (m : MacV) (ad : Option Addr) (cap : Nat) (s : Int) (w : World) (hg0 : 1 ≤ m.gears) (hg : m.gears ≤ 16) (h0 : 0 ≤ s) (h1 : s < 4 * m.gears) :
  Calls Tryz.prog 74 #[mV m ad cap, .int .i64 s] w fun r w' => r = .returned (.int .i64 (otherM m s)) ∧ Below w.heap.size w w' := by
 have hS := (SL.nil w).box (.cells (mC m ad cap) 25)
 have CP := fun (x : Int) w (a : 0 ≤ x) (b : x < 4 * m.gears) => rPlace_any m ad cap x w hg a b
 have CPs := fun w => rPlace_any m ad cap s w hg h0 h1
 obtain ⟨P, hP⟩ : ∃ P, P = placeM m s := ⟨_, rfl⟩
 rw [← hP] at CPs
 have HPs := hid CPs
 clear CPs
 by_cases hp0 : P < 0
 ·have ho : otherM m s = -1 := by unfold otherM; rw [← hP, decide_eq_false (by omega)]; rfl
  have HO := hid ho
  clear ho hP CP
  go_enter Tryz.func74, Tryz.ntmps74
  go_wp2_with fail
  refine (HPs.out _).mono ?_
  rintro e w1 ⟨rfl, b1⟩
  have hS1 := hS.mono b1
  go_wp2_with fail
  go_ret
  exact ⟨by rw [HO.out]; rfl, hS1.b⟩
 ·have hpd : decide (P < 0) = false := decide_eq_false hp0
  have CS := fun w => rShared_any m ad cap P w hg0 hg
  cases hsh : sharedM m P
  ·have ho : otherM m s = -1 := by unfold otherM; rw [← hP, hsh, Bool.and_false]; rfl
   rw [hsh] at CS
   have HO := hid ho; have HS := hid CS
   clear ho hP CP CS hsh
   go_enter Tryz.func74, Tryz.ntmps74
   go_wp2_with fail
   refine (HPs.out _).mono ?_
   rintro e w1 ⟨rfl, b1⟩
   have hS1 := hS.mono b1
   have q1 := (hS1.blk 0 rfl).1
   go_wp2_with (with_reducible refine wpList_ldS (n := 4) (us := mC m ad cap) A_rmach kR wU wU (by assumption) wU wU ?_)
   refine (HS.out _).mono ?_
   rintro e w2 ⟨rfl, b2⟩
   have hS2 := hS1.mono b2
   go_wp2_with fail
   go_ret
   exact ⟨by rw [HO.out]; rfl, hS2.b⟩
  ·rw [hsh] at CS
   have ho := other_is h0 h1 (by rw [← hP]; omega) (by rw [← hP]; exact hsh)
   have hu := fun (i : Int) a b c d => other_only (m := m) (s := s) (i := i) h0 h1 a b (by rw [← hP]; omega) (by rw [← hP]; exact hsh) c d
   obtain ⟨K, hK⟩ : ∃ K : Nat, otherM m s = K := ⟨(otherM m s).toNat, by omega⟩
   obtain ⟨n, hn⟩ : ∃ n : Nat, 4 * m.gears = n := ⟨(4 * m.gears).toNat, by omega⟩
   have CN := fun w => rSlots_any m ad cap w (by omega) hg
   rw [hK] at ho hu ⊢
   rw [hn] at ho hu CP h1 CN
   rw [← hP] at ho hu
   have HS := hid CS; have HO := hid ho; have HU := hid hu; have HP := hid CP; have HN := hid CN
   have hKn : K < n := by omega
   have hn64 : n ≤ 64 := by omega
   clear CS CP CN ho hu hP hK hn hsh
   go_enter Tryz.func74, Tryz.ntmps74
   go_wp2_with fail
   refine (HPs.out _).mono ?_
   rintro e w1 ⟨rfl, b1⟩
   have hS1 := hS.mono b1
   have q1 := (hS1.blk 0 rfl).1
   go_wp2_with (with_reducible refine wpList_ldS (n := 4) (us := mC m ad cap) A_rmach kR wU wU (by assumption) wU wU ?_)
   refine (HS.out _).mono ?_
   rintro e w2 ⟨rfl, b2⟩
   have hS2 := hS1.mono b2
   go_wp2_with fail
   go_loopw [6] (fun i wr => ∃ k : Nat, k ≤ K ∧ i = .int .i64 k ∧ SL w.heap.size w wr [pBlk w.heap.size (.cells (mC m ad cap) 25)]) (fun i _ => n - (intOf i).toNat)
   case atStart => exact ⟨0, by omega, rfl, hS2⟩
   case round =>
    clear hS1 hS2 hS q1
    obtain ⟨k, hk, rfl, hSr⟩ := hrel
    have q1 := (hSr.blk 0 rfl).1
    have hkn : (k : Int) < n := by omega
    go_wp2_with (with_reducible refine wpList_ldS (n := 4) (us := mC m ad cap) A_rmach kR wU wU (by assumption) wU wU ?_)
    refine (HN.out _).mono ?_
    rintro e w3 ⟨rfl, b3⟩
    have hS3 := hSr.mono b3
    have q3 := (hS3.blk 0 rfl).1
    by_cases hkK : k = K
    ·subst hkK
     have hne : ((k : Int) != s) = true := by simpa using HO.out.2.2.1
     have CPk := fun w => HP.out k w (by omega) hkn
     rw [HO.out.2.2.2] at CPk
     have HPk := hid CPk
     clear CPk
     go_wp2_with (with_reducible refine wpList_ldS (n := 4) (us := mC m ad cap) A_rmach kR wU wU (by assumption) wU wU ?_)
     refine (HPk.out _).mono ?_
     rintro e w4 ⟨rfl, b4⟩
     have hS4 := hS3.mono b4
     go_wp2_with fail
     go_ret
     exact ⟨rfl, hS4.b⟩
    ·by_cases hks : (k : Int) = s
     ·have hne : ((k : Int) != s) = false := by simpa using hks
      have hkK2 : k < K := by omega
      clear hks
      go_wp2_with fail
      exact ⟨⟨k + 1, by omega, by go_num, hS3⟩, by simp [intOf]; omega⟩
     ·have hne : ((k : Int) != s) = true := by simpa using hks
      have hkK2 : k < K := by omega
      have CPk := fun w => HP.out k w (by omega) hkn
      obtain ⟨z, hz⟩ : ∃ z, z = placeM m k := ⟨_, rfl⟩
      have hzP : (z == P) = false := by
       have : z ≠ P := fun e => hkK (by have := HU.out k (by omega) (by omega) hks (hz ▸ e); omega)
       simpa using this
      rw [← hz] at CPk
      have HPk := hid CPk
      clear CPk hks hz
      go_wp2_with (with_reducible refine wpList_ldS (n := 4) (us := mC m ad cap) A_rmach kR wU wU (by assumption) wU wU ?_)
      refine (HPk.out _).mono ?_
      rintro e w4 ⟨rfl, b4⟩
      have hS4 := hS3.mono b4
      go_wp2_with fail
      exact ⟨⟨k + 1, by omega, by go_num, hS4⟩, by simp [intOf]; omega⟩
theorem rOver_any (m : MacV) (ad : Option Addr) (cap : Nat) (s : Int) (w : World) (hR : Ints w ad cap m.sw) (hg0 : 1 ≤ m.gears) (hg : m.gears ≤ 16) (h0 : 0 ≤ s) (h1 : s < 4 * m.gears) :
  Calls Tryz.prog 94 #[mV m ad cap, .int .i64 s] w fun r w' => r = .returned (.int .i64 (overM m s)) ∧ Below w.heap.size w w' := by
 have hcap := hR.le
 have hmx := hR.max
 have hS := (SL.nil w).box (.cells (mC m ad cap) 25)
 have CO := fun w => rOther_any m ad cap s w hg0 hg h0 h1
 have CP := fun w => rPlace_any m ad cap s w hg h0 h1
 have CS := fun w (h : Ints w ad cap m.sw) => rSet_any m ad cap (placeM m s) w h
 rw [other_over]
 obtain ⟨O, hO⟩ : ∃ O, O = otherM m s := ⟨_, rfl⟩
 obtain ⟨P, hP⟩ : ∃ P, P = placeM m s := ⟨_, rfl⟩
 obtain ⟨b, hb⟩ : ∃ b, b = m.sw.contains P := ⟨_, rfl⟩
 rw [← hP, ← hb] at CS
 rw [← hO] at CO
 rw [← hP] at CP
 rw [← hO, ← hP, ← hb]
 have HO := hid CO; have HP := hid CP; have HS := hid CS
 clear CO CP CS hO hP hb
 by_cases h : 0 ≤ O
 ·cases b
  ·rw [decide_eq_true h, if_pos (by rfl)]
   have hOd : decide (0 ≤ O) = true := decide_eq_true h
   go_enter Tryz.func94, Tryz.ntmps94
   go_wp2_with fail
   refine (HO.out _).mono ?_
   rintro e w1 ⟨rfl, b1⟩
   have hS1 := hS.mono b1
   have q1 := (hS1.blk 0 rfl).1
   go_wp2_with fail
   refine wp_region_q kR kR ?_
   repeat (first | ((try simp only [hOd]); ((with_reducible refine wpB_loadS (n := 4) (us := mC m ad cap) A_rmach kR wU wU (by assumption) wU wU ?_); (try simp only [Act.put, pA, pB, pC]))) | ((refine wpB_call (.int .i64 P) wU (fun w' => ?_) (fun w' hw' => HP.out w') ?_); (focus (go_simp; done)); (try simp only [Act.put, pA, pB, pC])) | ((refine wpB_call (.bool false) wU (fun w' => ?_) (fun w' hw' => HS.out w' (hR.below (bnext hS1.b hw'))) ?_); (focus (go_simp; done)); (try simp only [Act.put, pA, pB, pC])) |  ((with_reducible refine wpB_load (by first | exact F_int | exact F_u64s) wU wU (by assumption) wU ?_); (try simp only [Act.put, pA, pB, pC])) | ((refine wpQ_oneG ?_ wU (fun w' => ?_) ?_); rotate_left; (go_simp; rfl); (try simp only [Act.put, pA, pB, pC])))
   refine wpQuiet_nil ?_
   intro w2 hb2
   go_wp2_with fail
   go_ret
   exact ⟨rfl, bnext hS1.b hb2⟩
  ·rw [decide_eq_true h, if_neg (by decide)]
   have hOd : decide (0 ≤ O) = true := decide_eq_true h
   go_enter Tryz.func94, Tryz.ntmps94
   go_wp2_with fail
   refine (HO.out _).mono ?_
   rintro e w1 ⟨rfl, b1⟩
   have hS1 := hS.mono b1
   have q1 := (hS1.blk 0 rfl).1
   go_wp2_with fail
   refine wp_region_q kR kR ?_
   repeat (first | ((try simp only [hOd]); ((with_reducible refine wpB_loadS (n := 4) (us := mC m ad cap) A_rmach kR wU wU (by assumption) wU wU ?_); (try simp only [Act.put, pA, pB, pC]))) | ((refine wpB_call (.int .i64 P) wU (fun w' => ?_) (fun w' hw' => HP.out w') ?_); (focus (go_simp; done)); (try simp only [Act.put, pA, pB, pC])) | ((refine wpB_call (.bool true) wU (fun w' => ?_) (fun w' hw' => HS.out w' (hR.below (bnext hS1.b hw'))) ?_); (focus (go_simp; done)); (try simp only [Act.put, pA, pB, pC])) |  ((with_reducible refine wpB_load (by first | exact F_int | exact F_u64s) wU wU (by assumption) wU ?_); (try simp only [Act.put, pA, pB, pC])) | ((refine wpQ_oneG ?_ wU (fun w' => ?_) ?_); rotate_left; (go_simp; rfl); (try simp only [Act.put, pA, pB, pC])))
   refine wpQuiet_nil ?_
   intro w2 hb2
   go_wp2_with fail
   go_ret
   exact ⟨rfl, bnext hS1.b hb2⟩
 ·rw [decide_eq_false h, if_neg (by simp)]
  have hOd : decide (0 ≤ O) = false := decide_eq_false h
  go_enter Tryz.func94, Tryz.ntmps94
  go_wp2_with fail
  refine (HO.out _).mono ?_
  rintro e w1 ⟨rfl, b1⟩
  have hS1 := hS.mono b1
  have q1 := (hS1.blk 0 rfl).1
  go_wp2_with fail
  refine wp_region_q kR kR ?_
  repeat (first | ((try simp only [hOd]); ((with_reducible refine wpQ_skip wU ?_); (try simp only [Act.put, pA, pB, pC]))) |  ((with_reducible refine wpB_load (by first | exact F_int | exact F_u64s) wU wU (by assumption) wU ?_); (try simp only [Act.put, pA, pB, pC])) | ((refine wpQ_oneG ?_ wU (fun w' => ?_) ?_); rotate_left; (go_simp; rfl); (try simp only [Act.put, pA, pB, pC])))
  refine wpQuiet_nil ?_
  intro w2 hb2
  go_wp2_with fail
  go_ret
  exact ⟨rfl, bnext hS1.b hb2⟩
theorem rStep_any (m : MacV) (ad : Option Addr) (cap : Nat) (s : Int) (w : World) (hR : Ints w ad cap m.sw) (hg0 : 1 ≤ m.gears) (hg : m.gears ≤ 16) (h0 : 0 ≤ s) (h1 : s < 4 * m.gears) :
  Calls Tryz.prog 149 #[mV m ad cap, .int .i64 s] w fun r w' => r = .returned (.int .i64 (nextM m s)) ∧ Below w.heap.size w w' := by
 obtain ⟨g, hgq⟩ : ∃ g, g = s / 4 := ⟨_, rfl⟩
 obtain ⟨q, hq⟩ : ∃ q, q = s % 4 := ⟨_, rfl⟩
 have htd : s.tdiv 4 = g := by rw [hgq, Int.tdiv_eq_ediv_of_nonneg h0]
 have htm : s.tmod 4 = q := by rw [hq, Int.tmod_eq_emod_of_nonneg h0]
 have hgb : 0 ≤ g ∧ g < m.gears := by omega
 have hq0 : 0 ≤ q ∧ q < 4 := by omega
 have hrr := rot_rng (m := m) h0 h1
 have hro : rotM m s = 4 * g + (q + (if fwdM m g then 1 else 3)) % 4 := by unfold rotM; rw [hgq, hq]
 have CF := fun w => rForwards_any m ad cap g w hgb.1 (by omega)
 have CO := fun w h => rOver_any m ad cap (rotM m s) w h hg0 hg hrr.1 hrr.2.1
 have hnx : nextM m s = overM m (rotM m s) := rfl
 rw [← hnx] at CO
 obtain ⟨N, hN⟩ : ∃ N, N = nextM m s := ⟨_, rfl⟩
 rw [← hN] at CO ⊢
 have hS := (SL.nil w).box (.cells (mC m ad cap) 25)
 have hcap := hR.le
 have hmx := hR.max
 have hw0 : IntKind.i64.wrap g = g := IntWalk.i64_in _ (by omega)
 cases hf : fwdM m g
 ·rw [hf] at CF hro
  simp only [Bool.false_eq_true, if_false] at hro
  rw [hro] at CO
  have hmd : (q + 3).tmod 4 = (q + 3) % 4 := Int.tmod_eq_emod_of_nonneg (by omega)
  obtain ⟨z, hz⟩ : ∃ z, z = (q + 3) % 4 := ⟨_, rfl⟩
  have hz0 : 0 ≤ z ∧ z < 4 := by omega
  rw [← hz] at hmd CO
  have HF := hid CF; have HO := hid CO
  clear CF CO hro hnx hN hrr hgq hq hz hf
  go_enter Tryz.func149, Tryz.ntmps149
  go_wp2_with fail
  refine (HF.out _).mono ?_
  rintro e w1 ⟨rfl, b1⟩
  have hS1 := hS.mono b1
  have q1 := (hS1.blk 0 rfl).1
  go_wp2_with (with_reducible refine wpList_ldS (n := 4) (us := mC m ad cap) A_rmach kR wU wU (by assumption) wU wU ?_)
  refine (HO.out _ (hR.below hS1.b)).mono ?_
  rintro e w2 ⟨rfl, b2⟩
  go_wp2_with fail
  go_ret
  exact ⟨rfl, bnext hS1.b b2⟩
 ·rw [hf] at CF hro
  simp only [if_true] at hro
  rw [hro] at CO
  have hmd : (q + 1).tmod 4 = (q + 1) % 4 := Int.tmod_eq_emod_of_nonneg (by omega)
  obtain ⟨z, hz⟩ : ∃ z, z = (q + 1) % 4 := ⟨_, rfl⟩
  have hz0 : 0 ≤ z ∧ z < 4 := by omega
  rw [← hz] at hmd CO
  have HF := hid CF; have HO := hid CO
  clear CF CO hro hnx hN hrr hgq hq hz hf
  go_enter Tryz.func149, Tryz.ntmps149
  go_wp2_with fail
  refine (HF.out _).mono ?_
  rintro e w1 ⟨rfl, b1⟩
  have hS1 := hS.mono b1
  have q1 := (hS1.blk 0 rfl).1
  go_wp2_with (with_reducible refine wpList_ldS (n := 4) (us := mC m ad cap) A_rmach kR wU wU (by assumption) wU wU ?_)
  refine (HO.out _ (hR.below hS1.b)).mono ?_
  rintro e w2 ⟨rfl, b2⟩
  go_wp2_with fail
  go_ret
  exact ⟨rfl, bnext hS1.b b2⟩
theorem rPerm_any (m : MacV) (ad : Option Addr) (cap : Nat) (w : World) (hR : Ints w ad cap m.sw) (hg0 : 1 ≤ m.gears) (hg : m.gears ≤ 16) :
  Calls Tryz.prog 117 #[mV m ad cap] w fun r w' => ∃ v, r = .returned v ∧ OwnI w.heap.size w' v (permM m) ∧ Below w.heap.size w w' := by
 have hcap := hR.le
 have hmx := hR.max
 have hl := permM_len m
 obtain ⟨n, hn⟩ : ∃ n : Nat, (4 * m.gears) = n := ⟨(4 * m.gears).toNat, by omega⟩
 rw [hn, Int.toNat_natCast] at hl
 have CS := fun w => rSlots_any m ad cap w (by omega) hg
 rw [hn] at CS
 have CN := fun (k : Nat) w (h : Ints w ad cap m.sw) (hk : k < n) => rStep_any m ad cap k w h hg0 hg (by omega) (by omega)
 have hS := ((SL.nil w).box (.cells (mC m ad cap) 25)).nilS (α := Int) (e := 3) cIntS
 have HS := hid CS; have HN := hid CN; have HL := hid hl
 have hn64 : n ≤ 64 := by omega
 clear CS CN hl hn
 go_enter Tryz.func117, Tryz.ntmps117
 go_wp2_with fail
 go_loopw [4, 3] (fun i v wr => ∃ k : Nat, k ≤ n ∧ i = .int .i64 k ∧ SL w.heap.size w wr [pOwn cInt 1 3 v ((permM m).take k), pBlk w.heap.size (.cells (mC m ad cap) 25)]) (fun i _ _ => n - (intOf i).toNat)
 case atStart => exact ⟨0, by omega, rfl, hS⟩
 case round =>
  clear hS
  obtain ⟨k, hk, rfl, hSr⟩ := hrel
  have q1 := (hSr.blk 1 rfl).1
  go_wp2_with (with_reducible refine wpList_ldS (n := 4) (us := mC m ad cap) A_rmach kR wU wU (by assumption) wU wU ?_)
  refine (HS.out _).mono ?_
  rintro e w1 ⟨rfl, b1⟩
  have hS1 := hSr.mono b1
  have q2 := (hS1.blk 1 rfl).1
  by_cases hlt : k < n
  ·have hs := permM_step m k (by rw [HL.out]; exact hlt)
   have hle : ((permM m).take k).length ≤ 64 := by rw [List.length_take, HL.out]; omega
   have HST := hid hs; clear hs
   go_wp2_with (with_reducible refine wpList_ldS (n := 4) (us := mC m ad cap) A_rmach kR wU wU (by assumption) wU wU ?_)
   refine (HN.out k _ (hR.below hS1.b) hlt).mono ?_
   rintro e w4 ⟨rfl, b4⟩
   have hS4 := hS1.mono b4
   go_wp2_with ((with_reducible refine wpList_pushL (y := (nextM m k)) 0 E_ints wU wU (hS4) wU cIntO ⟨rfl, rfl⟩ (by first | with_unfolding_all rfl | simp) wU (by first | omega | (simp; omega)) (by first | omega | (simp; omega)) ?_); intro v5 w5 hS5)
   exact ⟨⟨k + 1, by omega, by go_num, by rw [HST.out]; exact hS5⟩, by simp [intOf]; omega⟩
  ·have hkn : k = n := by omega
   subst hkn
   have et : (permM m).take k = permM m := List.take_of_length_le (by rw [HL.out]; omega)
   rw [et] at hS1
   clear et
   go_wp2_with fail
   go_ret
   exact ⟨_, rfl, hS1.own 0 rfl, hS1.b⟩
end Go.Proofs.YtoebgfgihfjnnaaGreatDoor

namespace Go.Proofs.YtoebgfgihfjnnaaGreatDoor
open Go.RowKit
set_option maxHeartbeats 1000000
set_option maxRecDepth 100000
section
variable {P : Program} {ops : Array Oper} {rest : List Oper} {a : Act} {Qa : Act → Prop} {α : Type} {c : α → Value} {sz bytes : Nat} {t e : TypeId} {z : Value} {ad : Option Addr} {cap : Nat} {l : List α} {k : Int} {w : World}
 {d1 d2 : Tmp} {ty1 ty2 : TypeId} {p1 p2 : String} {s x : Operand} {af1 af2 : Array Edge}
theorem wpB_idx2 (d : α) (E : ETy P t e z sz bytes) (hF : Flat P e) (hc : ∀ x, (c x).cells = #[c x])
   {n : Nat} (hs : a.eval s = .slice ad n cap) (hn : l.length = n) (hx : a.eval x = .int .i64 k) (hR : Reps c sz w ad cap l) (h0 : 0 ≤ k) (hlt : k < l.length) (hd : ∀ p, (a.put (some d1) p).eval (.tmp d1) = p)
   (hK : ∀ p, wpQuiet P ops (Below w.heap.size w) Qa rest ((a.put (some d1) p).put (some d2) (c (atD d l k)))) :
   wpQuiet P ops (Below w.heap.size w) Qa (⟨some d1, .indexAddr t s x, ty1, p1, af1, none⟩ :: ⟨some d2, .load e (.tmp d1), ty2, p2, af2, none⟩ :: rest) a := by
 subst hn
 have hkl : k.toNat < l.length := by omega
 obtain ⟨b, o, rfl, hcs⟩ := hR.cells E.pos d k.toNat hkl
 have hcell := hcs 0 (c (atD d l k)) (by rw [show l.getD k.toNat d = atD d l k from rfl, hc]; rfl)
 refine wpQ_in (.pointer (some ((⟨b, o, none⟩ : Addr).add (k.toNat * sz)))) rfl (fun w' hw' => ?_) (wpQ_in (c (atD d l k)) rfl (fun w' hw' => ?_) (hK _))
 ·have h1 := run_indexAt_sl (P := P) (a := ⟨b, o, none⟩) (cap := cap) w' E h0 hlt
  simp [execOp, hs, hx, h1, Result.andThen]
 ·have h2 := run_loadAt_cell (P := P) w' (a := (⟨b, o, none⟩ : Addr).add (k.toNat * sz)) (v := c (atD d l k)) hF (by
   rw [Addr.add_z]
   exact (hw'.cell (World.block_lt_of_cell? w _ hcell)).trans hcell)
  simp [execOp, hd, h2, Result.andThen]
end
/-- the handles H lead to the lists l. -/
def LeadsTo (w : World) (H : List SlH) (l : List (List Int)) : Prop := ∀ k : Nat, k < l.length → ∃ xa xc, atD ((none, 0, 0) : SlH) H k = (xa, (atD [] l k).length, xc) ∧ Ints w xa xc (atD [] l k) ∧ (atD [] l k).length ≤ 1048576
theorem LeadsTo.below {w w' : World} {H : List SlH} {l : List (List Int)} (h : LeadsTo w H l) (hb : Below w.heap.size w w') : LeadsTo w' H l := fun k hk => by
 obtain ⟨xa, xc, h1, h2, h3⟩ := h k hk
 exact ⟨xa, xc, h1, h2.below hb, h3⟩
theorem SamePerms_any (a a2 : Option Addr) (cap cap2 : Nat) (H R : List SlH) (l : List (List Int)) (n : Nat) (w : World) (hS : Reps cSl 1 w a cap H) (hM : Reps cSl 1 w a2 cap2 R) (hH : H.length = n) (hR : R.length = n) (hL : l.length = n) (hq : LeadsTo w H l) (hr : LeadsTo w R l) (hl : n ≤ 1048576) :
  Calls Tryz.prog 58 #[.slice a n cap, .slice a2 n cap2] w fun r w' => r = .returned (.bool true) ∧ Below w.heap.size w w' := by
 have hcap : n ≤ cap := by have := hS.le; omega
 have hm := hS.max
 have hcap2 : n ≤ cap2 := by have := hM.le; omega
 have hm2 := hM.max
 have CS : ∀ (k : Nat), k < n → ∃ x xa xc ya yc, atD ((none, 0, 0) : SlH) H k = (xa, x, xc) ∧ atD ((none, 0, 0) : SlH) R k = (ya, x, yc) ∧ ∀ w', Below w.heap.size w w' → Calls Tryz.prog 56 #[.slice xa x xc, .slice ya x yc] w' fun r w'' => r = .returned (.bool true) ∧ Below w'.heap.size w' w'' := by
  intro k hk
  obtain ⟨xa, xc, hx1, hx2, hx3⟩ := hq k (by omega)
  obtain ⟨ya, yc, hy1, hy2, hy3⟩ := hr k (by omega)
  refine ⟨_, xa, xc, ya, yc, hx1, hy1, fun w' hb => ?_⟩
  have := SameInts_any xa ya xc yc _ _ w' (hx2.below hb) (hy2.below hb) hx3
  rw [decide_eq_true rfl] at this
  exact this
 have HC := hid CS
 have HS := hid (show Reps cSl 1 w a cap H ∧ H.length = n from ⟨hS, hH⟩)
 have HM := hid (show Reps cSl 1 w a2 cap2 R ∧ R.length = n from ⟨hM, hR⟩)
 clear CS hq hr hL hS hM hH hR
 go_enter Tryz.func58, Tryz.ntmps58
 go_wp2_with fail
 go_loopw [5] (fun i wr => ∃ k : Nat, k ≤ n ∧ i = .int .i64 k ∧ Below w.heap.size w wr) (fun i _ => n - (intOf i).toNat)
 case atStart => exact ⟨0, by omega, rfl, Below.refl _ _⟩
 case round =>
  obtain ⟨k, hk, rfl, hbr⟩ := hrel
  by_cases hlt : k < n
  ·obtain ⟨x, xa, xc, ya, yc, hx, hy, hc⟩ := HC.out k hlt
   have hS5 := HS.out.1.below hbr
   have hS6 := HM.out.1.below hbr
   have hk1 : (k : Int) < H.length := by rw [HS.out.2]; omega
   have hk2 : (k : Int) < R.length := by rw [HM.out.2]; omega
   have HX := hid hx; have HY := hid hy; have HCC := hid hc
   clear hx hy hc
   go_wp2_with fail
   refine wp_region_q kR kR ?_
   repeat (first | (((with_reducible refine wpB_idx2 ((none, 0, 0) : SlH) E_sls F_sl cSl1 wU (HS.out.2) wU (hS5) oD oD (fun _ => wU) (fun _ => ?_)); (try simp only [Act.put, pA, pB, pC]); (try simp only [cInt])); rw [HX.out]) | (((with_reducible refine wpB_idx2 ((none, 0, 0) : SlH) E_sls F_sl cSl1 wU (HM.out.2) wU (hS6) oD oD (fun _ => wU) (fun _ => ?_)); (try simp only [Act.put, pA, pB, pC]); (try simp only [cInt])); rw [HY.out]) | ((refine wpB_call (.bool true) wU (fun w' => ?_) (fun w' hw' => HCC.out w' (bnext hbr hw')) ?_); (focus (go_simp; done)); (try simp only [Act.put, pA, pB, pC])) |  ((with_reducible refine wpB_load (by first | exact F_int | exact F_u64s) wU wU (by assumption) wU ?_); (try simp only [Act.put, pA, pB, pC])) | ((refine wpQ_oneG ?_ wU (fun w' => ?_) ?_); rotate_left; (go_simp; rfl); (try simp only [Act.put, pA, pB, pC])))
   refine wpQuiet_nil ?_
   intro w5 hb5
   have b5 := bnext hbr hb5
   go_wp2_with fail
   exact ⟨⟨k + 1, by omega, by go_num, b5⟩, by simp [intOf]; omega⟩
  ·have hkn : k = n := by omega
   subst hkn
   go_wp2_with fail
   go_ret
   exact ⟨rfl, hbr⟩
end Go.Proofs.YtoebgfgihfjnnaaGreatDoor
