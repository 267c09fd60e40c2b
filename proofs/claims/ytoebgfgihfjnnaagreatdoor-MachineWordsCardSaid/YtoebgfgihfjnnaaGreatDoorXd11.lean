/- Contracts and plain facts that the claim uses (MbV MbX QrT QrK QrL QrU IxG QrM). Conditions: as each one states. -/
import Derived.Test.YtoebgfgihfjnnaaGreatDoorXd01
import Derived.Test.YtoebgfgihfjnnaaGreatDoorXd02
import Derived.Test.YtoebgfgihfjnnaaGreatDoorXd04
import Derived.Test.YtoebgfgihfjnnaaGreatDoorXd08
import Derived.Test.YtoebgfgihfjnnaaGreatDoorXd09
import Derived.Test.YtoebgfgihfjnnaaGreatDoorXd10
set_option linter.all false

namespace Go.Proofs.YtoebgfgihfjnnaaGreatDoor
open Go.RowKit
set_option maxHeartbeats 8000000
set_option maxRecDepth 100000

def pre4 (E : Int) (r : Bool) (k : Nat) (n : Int) : Int := firstE [E, if r then 13 else 0, if decide (12 < (k : Int)) then 5 else 0, if n < 0 ∨ 1000 < n then 3 else 0]
theorem weaveE_pre (m : MacV) (l : List Int) (n : Int) : weaveE m l n = if pre4 (loadE m l) m.ring l.length n ≠ 0 then pre4 (loadE m l) m.ring l.length n else if meetsM m l n = true then 16 else 0 := by
 unfold weaveE pre4
 by_cases he : loadE m l = 0
 ·rw [if_neg (by simp [he]), he, firstE_z]
  cases hr : m.ring
  ·simp only [Bool.false_eq_true, if_false]
   rw [firstE_z]
   by_cases hl : 12 < l.length
   ·have : decide (12 < (l.length : Int)) = true := decide_eq_true (by omega)
    rw [this, if_pos rfl, if_pos hl, firstE_head (by decide)]
    simp
   ·have : decide (12 < (l.length : Int)) = false := decide_eq_false (by omega)
    rw [this, if_neg hl]
    simp only [Bool.false_eq_true, if_false]
    rw [firstE_z]
    by_cases hn : n < 0 ∨ 1000 < n
    ·have e : (if n < 0 ∨ 1000 < n then (3 : Int) else 0) = 3 := if_pos hn
     rw [e, if_pos hn, firstE_head (by decide)]
     rfl
    ·have e : (if n < 0 ∨ 1000 < n then (3 : Int) else 0) = 0 := if_neg hn
     rw [e, if_neg hn, firstE_z, firstE_nil]
     rfl
  ·simp only [if_true]
   rw [firstE_head (by decide)]
   simp
 ·rw [if_pos he, firstE_head he, if_pos he]
theorem pre4_zero {m : MacV} {l : List Int} {n : Int} (h : pre4 (loadE m l) m.ring l.length n = 0) : LoadOk m l := by
 refine loadE_zero ?_
 by_cases he : loadE m l = 0
 ·exact he
 ·unfold pre4 at h; rw [firstE_head he] at h; exact absurd h he

theorem wwhen (b : Bool) (e v : Int) (h : v = if b then e else 0) (w : World) : Calls Tryz.prog 61 #[.bool b, .int .i64 e] w fun r w' => r = .returned (.int .i64 v) ∧ Below w.heap.size w w' := by
 subst h
 exact calls_below (mwhen_any b e w)

theorem checkWeave_any (m : MacV) (ad : Option Addr) (cap : Nat) (al : Option Addr) (cl : Nat) (l : List Int) (n : Int) (w : World) (hR : Ints w ad cap m.sw) (hL : Ints w al cl l) (HK : ChkL m ad cap al cl l) :
  Calls Tryz.prog 67 #[mV m ad cap, .slice al l.length cl, .int .i64 n] w fun r w' => r = .returned (.int .i64 (weaveE m l n)) ∧ Below w.heap.size w w' := by
 have hcap := hL.le
 have hmx := hL.max
 have hS := (SL.nil w).box (.cells (mC m ad cap) 24)
 have q1 := (hS.blk 0 rfl).1
 have R1 := hR.below hS.b
 have L1 := hL.below hS.b
 unfold ChkL at HK
 have hv := weaveE_pre m l n
 obtain ⟨Z, hZ⟩ : ∃ Z, Z = pre4 (loadE m l) m.ring l.length n := ⟨_, rfl⟩
 have hok : Z = 0 → LoadOk m l := fun h => pre4_zero (by rw [← hZ]; exact h)
 rw [← hZ] at hv
 unfold pre4 at hZ
 obtain ⟨E, hE⟩ : ∃ E, E = loadE m l := ⟨_, rfl⟩
 obtain ⟨R, hRR⟩ : ∃ R, R = (if m.ring = true then (13 : Int) else 0) := ⟨_, rfl⟩
 obtain ⟨V5, hV5⟩ : ∃ V, V = (if decide (12 < (l.length : Int)) = true then (5 : Int) else 0) := ⟨_, rfl⟩
 obtain ⟨V3, hV3⟩ : ∃ V, V = (if n < 0 ∨ 1000 < n then (3 : Int) else 0) := ⟨_, rfl⟩
 rw [← hE] at HK hZ
 rw [← hRR, ← hV5, ← hV3] at hZ
 have HC := hid HK
 have HW := hid (wwhen m.ring 13 R hRR)
 have HW5 := hid (wwhen (decide (12 < (l.length : Int))) 5 V5 hV5)
 have HZ := hid hZ
 rw [hv]
 have fin : ∀ w1, SL w.heap.size w w1 [pBlk w.heap.size (.cells (mC m ad cap) 24)] → True := fun _ _ => trivial
 clear HK hE hRR hV5 hZ hv fin
 by_cases c1 : n < 0
 ·have hb3 : V3 = if (true : Bool) then 3 else 0 := by rw [hV3, if_pos (.inl c1)]; rfl
  have HW3 := hid (wwhen true 3 V3 hb3)
  have d1 : decide (n < 0) = true := decide_eq_true c1
  clear hV3 hb3
  by_cases hz : Z = 0
  ·have CM := fun w h h2 => meets_any m ad al cap cl l n w h h2 (hok hz).ok.hi (hok hz).rng
   rw [if_neg (by simp [hz])]
   clear hok
   subst hz
   cases hm : meetsM m l n
   all_goals
    rw [hm] at CM
    have HM := hid CM
    clear CM hm
    go_enter Tryz.func67, Tryz.ntmps67
    go_wp2_with fail
    refine wp_region_qt 17 kR kR ?_
    simp only [List.take_succ_cons, List.take_zero, List.drop_succ_cons, List.drop_zero]
    repeat (first | ((with_reducible refine wpB_loadS (n := 4) (us := mC m ad cap) A_mach kR wU wU (by assumption) wU wU ?_); (try simp only [Act.put, pA, pB, pC])) | ((with_reducible refine wpB_load F_boolM wU wU (by assumption) wU ?_); (try simp only [Act.put, pA, pB, pC])) | ((refine wpB_call (.int .i64 E) wU (fun w' => ?_) (fun w' hw' => HC.out w' (R1.below hw') (L1.below hw')) ?_); (focus (go_simp; done)); (try simp only [Act.put, pA, pB, pC])) | ((refine wpB_call (.int .i64 R) wU (fun w' => ?_) (fun w' hw' => HW.out w') ?_); (focus (go_simp; done)); (try simp only [Act.put, pA, pB, pC])) | ((refine wpB_call (.int .i64 V5) wU (fun w' => ?_) (fun w' hw' => HW5.out w') ?_); (focus (go_simp; done)); (try simp only [Act.put, pA, pB, pC])) | ((refine wpB_call (.int .i64 V3) wU (fun w' => ?_) (fun w' hw' => HW3.out w') ?_); (focus (go_simp; done)); (try simp only [Act.put, pA, pB, pC])) | ((with_reducible refine wpQ_skip wU ?_); (try simp only [Act.put, pA, pB, pC])) |  ((with_reducible refine wpB_load (by first | exact F_int | exact F_u64s) wU wU (by assumption) wU ?_); (try simp only [Act.put, pA, pB, pC])) | ((refine wpQ_oneG ?_ wU (fun w' => ?_) ?_); rotate_left; (go_simp; rfl); (try simp only [Act.put, pA, pB, pC])))
    refine wpQuiet_nil ?_
    intro w1 hb1
    have hS1 := hS.mono hb1
    have hS2 := hS1.al (.cells #[.int .i64 E, .int .i64 R, .int .i64 V5, .int .i64 V3] 29)
    have q2 := (hS2.blk 0 rfl).1
    go_wp2_with (first | (go_at_call 59; refine (mfirst_any _ _ [_, _, _, _] _ (reps_newN cIntS [_, _, _, _] 4 rfl (by decide) _ _ (by simp) rfl)).mono ?_; rw [← HZ.out]; rintro e w' ⟨rfl, rfl⟩) | (with_reducible refine wpList_ldS (n := 4) (us := mC m ad cap) A_mach kR wU wU (by assumption) wU wU ?_))
    refine (HM.out _ (hR.below hS2.b) (hL.below hS2.b)).mono ?_
    rintro e w3 ⟨rfl, b3⟩
    have hS3 := hS2.mono b3
    go_wp2_with (go_at_call 61; refine (mwhen_any _ _ _).mono ?_; rintro e w' ⟨rfl, rfl⟩)
    go_ret
    exact ⟨rfl, hS3.b⟩
  ·have hne : (Z != 0) = true := by simpa using hz
   rw [if_pos hz]
   clear hok
   go_enter Tryz.func67, Tryz.ntmps67
   go_wp2_with fail
   refine wp_region_qt 17 kR kR ?_
   simp only [List.take_succ_cons, List.take_zero, List.drop_succ_cons, List.drop_zero]
   repeat (first | ((with_reducible refine wpB_loadS (n := 4) (us := mC m ad cap) A_mach kR wU wU (by assumption) wU wU ?_); (try simp only [Act.put, pA, pB, pC])) | ((with_reducible refine wpB_load F_boolM wU wU (by assumption) wU ?_); (try simp only [Act.put, pA, pB, pC])) | ((refine wpB_call (.int .i64 E) wU (fun w' => ?_) (fun w' hw' => HC.out w' (R1.below hw') (L1.below hw')) ?_); (focus (go_simp; done)); (try simp only [Act.put, pA, pB, pC])) | ((refine wpB_call (.int .i64 R) wU (fun w' => ?_) (fun w' hw' => HW.out w') ?_); (focus (go_simp; done)); (try simp only [Act.put, pA, pB, pC])) | ((refine wpB_call (.int .i64 V5) wU (fun w' => ?_) (fun w' hw' => HW5.out w') ?_); (focus (go_simp; done)); (try simp only [Act.put, pA, pB, pC])) | ((refine wpB_call (.int .i64 V3) wU (fun w' => ?_) (fun w' hw' => HW3.out w') ?_); (focus (go_simp; done)); (try simp only [Act.put, pA, pB, pC])) | ((with_reducible refine wpQ_skip wU ?_); (try simp only [Act.put, pA, pB, pC])) |  ((with_reducible refine wpB_load (by first | exact F_int | exact F_u64s) wU wU (by assumption) wU ?_); (try simp only [Act.put, pA, pB, pC])) | ((refine wpQ_oneG ?_ wU (fun w' => ?_) ?_); rotate_left; (go_simp; rfl); (try simp only [Act.put, pA, pB, pC])))
   refine wpQuiet_nil ?_
   intro w1 hb1
   have hS1 := hS.mono hb1
   go_wp2_with (go_at_call 59; refine (mfirst_any _ _ [_, _, _, _] _ (reps_newN cIntS [_, _, _, _] 4 rfl (by decide) _ _ (by simp) rfl)).mono ?_; rw [← HZ.out]; rintro e w' ⟨rfl, rfl⟩)
   go_ret
   exact ⟨rfl, bal hS1.b _⟩
 ·have hb3 : V3 = if decide (1000 < n) then 3 else 0 := by
   rw [hV3]
   by_cases h : 1000 < n
   ·rw [if_pos (.inr h), decide_eq_true h]; rfl
   ·rw [if_neg (by omega), decide_eq_false h]; rfl
  have HW3 := hid (wwhen (decide (1000 < n)) 3 V3 hb3)
  have d1 : decide (n < 0) = false := decide_eq_false c1
  clear hV3 hb3
  by_cases hz : Z = 0
  ·have CM := fun w h h2 => meets_any m ad al cap cl l n w h h2 (hok hz).ok.hi (hok hz).rng
   rw [if_neg (by simp [hz])]
   clear hok
   subst hz
   cases hm : meetsM m l n
   all_goals
    rw [hm] at CM
    have HM := hid CM
    clear CM hm
    go_enter Tryz.func67, Tryz.ntmps67
    go_wp2_with fail
    refine wp_region_qt 17 kR kR ?_
    simp only [List.take_succ_cons, List.take_zero, List.drop_succ_cons, List.drop_zero]
    repeat (first | ((with_reducible refine wpB_loadS (n := 4) (us := mC m ad cap) A_mach kR wU wU (by assumption) wU wU ?_); (try simp only [Act.put, pA, pB, pC])) | ((with_reducible refine wpB_load F_boolM wU wU (by assumption) wU ?_); (try simp only [Act.put, pA, pB, pC])) | ((refine wpB_call (.int .i64 E) wU (fun w' => ?_) (fun w' hw' => HC.out w' (R1.below hw') (L1.below hw')) ?_); (focus (go_simp; done)); (try simp only [Act.put, pA, pB, pC])) | ((refine wpB_call (.int .i64 R) wU (fun w' => ?_) (fun w' hw' => HW.out w') ?_); (focus (go_simp; done)); (try simp only [Act.put, pA, pB, pC])) | ((refine wpB_call (.int .i64 V5) wU (fun w' => ?_) (fun w' hw' => HW5.out w') ?_); (focus (go_simp; done)); (try simp only [Act.put, pA, pB, pC])) | ((refine wpB_call (.int .i64 V3) wU (fun w' => ?_) (fun w' hw' => HW3.out w') ?_); (focus (go_simp; done)); (try simp only [Act.put, pA, pB, pC])) | ((with_reducible refine wpQ_skip wU ?_); (try simp only [Act.put, pA, pB, pC])) |  ((with_reducible refine wpB_load (by first | exact F_int | exact F_u64s) wU wU (by assumption) wU ?_); (try simp only [Act.put, pA, pB, pC])) | ((refine wpQ_oneG ?_ wU (fun w' => ?_) ?_); rotate_left; (go_simp; rfl); (try simp only [Act.put, pA, pB, pC])))
    refine wpQuiet_nil ?_
    intro w1 hb1
    have hS1 := hS.mono hb1
    have hS2 := hS1.al (.cells #[.int .i64 E, .int .i64 R, .int .i64 V5, .int .i64 V3] 29)
    have q2 := (hS2.blk 0 rfl).1
    go_wp2_with (first | (go_at_call 59; refine (mfirst_any _ _ [_, _, _, _] _ (reps_newN cIntS [_, _, _, _] 4 rfl (by decide) _ _ (by simp) rfl)).mono ?_; rw [← HZ.out]; rintro e w' ⟨rfl, rfl⟩) | (with_reducible refine wpList_ldS (n := 4) (us := mC m ad cap) A_mach kR wU wU (by assumption) wU wU ?_))
    refine (HM.out _ (hR.below hS2.b) (hL.below hS2.b)).mono ?_
    rintro e w3 ⟨rfl, b3⟩
    have hS3 := hS2.mono b3
    go_wp2_with (go_at_call 61; refine (mwhen_any _ _ _).mono ?_; rintro e w' ⟨rfl, rfl⟩)
    go_ret
    exact ⟨rfl, hS3.b⟩
  ·have hne : (Z != 0) = true := by simpa using hz
   rw [if_pos hz]
   clear hok
   go_enter Tryz.func67, Tryz.ntmps67
   go_wp2_with fail
   refine wp_region_qt 17 kR kR ?_
   simp only [List.take_succ_cons, List.take_zero, List.drop_succ_cons, List.drop_zero]
   repeat (first | ((with_reducible refine wpB_loadS (n := 4) (us := mC m ad cap) A_mach kR wU wU (by assumption) wU wU ?_); (try simp only [Act.put, pA, pB, pC])) | ((with_reducible refine wpB_load F_boolM wU wU (by assumption) wU ?_); (try simp only [Act.put, pA, pB, pC])) | ((refine wpB_call (.int .i64 E) wU (fun w' => ?_) (fun w' hw' => HC.out w' (R1.below hw') (L1.below hw')) ?_); (focus (go_simp; done)); (try simp only [Act.put, pA, pB, pC])) | ((refine wpB_call (.int .i64 R) wU (fun w' => ?_) (fun w' hw' => HW.out w') ?_); (focus (go_simp; done)); (try simp only [Act.put, pA, pB, pC])) | ((refine wpB_call (.int .i64 V5) wU (fun w' => ?_) (fun w' hw' => HW5.out w') ?_); (focus (go_simp; done)); (try simp only [Act.put, pA, pB, pC])) | ((refine wpB_call (.int .i64 V3) wU (fun w' => ?_) (fun w' hw' => HW3.out w') ?_); (focus (go_simp; done)); (try simp only [Act.put, pA, pB, pC])) | ((with_reducible refine wpQ_skip wU ?_); (try simp only [Act.put, pA, pB, pC])) |  ((with_reducible refine wpB_load (by first | exact F_int | exact F_u64s) wU wU (by assumption) wU ?_); (try simp only [Act.put, pA, pB, pC])) | ((refine wpQ_oneG ?_ wU (fun w' => ?_) ?_); rotate_left; (go_simp; rfl); (try simp only [Act.put, pA, pB, pC])))
   refine wpQuiet_nil ?_
   intro w1 hb1
   have hS1 := hS.mono hb1
   go_wp2_with (go_at_call 59; refine (mfirst_any _ _ [_, _, _, _] _ (reps_newN cIntS [_, _, _, _] 4 rfl (by decide) _ _ (by simp) rfl)).mono ?_; rw [← HZ.out]; rintro e w' ⟨rfl, rfl⟩)
   go_ret
   exact ⟨rfl, bal hS1.b _⟩
end Go.Proofs.YtoebgfgihfjnnaaGreatDoor

namespace Go.Proofs.YtoebgfgihfjnnaaGreatDoor
open Go.RowKit
set_option maxHeartbeats 8000000
set_option maxRecDepth 100000

/-- mapped with a function of the program, of which the places are given. -/
theorem mappedZ_any (p1 p2 : Value) (g : Int → Int) (al : Option Addr) (cl : Nat) (l : List Int) (w : World) (hL : Ints w al cl l) (hn : l.length ≤ 1048576)
  (HF : ∀ x ∈ l, ∀ w', Below w.heap.size w w' → Calls Tryz.prog 71 #[.int .i64 x, p1, p2] w' fun r w'' => r = .returned (.int .i64 (g x)) ∧ Below w'.heap.size w' w'') :
  Calls Tryz.prog 69 #[.slice al l.length cl, .func (.func 71) #[] #[p1, p2]] w fun r w' => ∃ v, r = .returned v ∧ OwnI w.heap.size w' v (l.map g) ∧ Below w.heap.size w w' := by
 have hcap := hL.le
 have hmx := hL.max
 have H := hid HF
 clear HF
 have hS := (SL.nil w).nilS (α := Int) (e := 3) cIntS
 go_enter Tryz.func69, Tryz.ntmps69
 go_wp2_with fail
 go_loopw [5, 10] (fun v i wr => ∃ k : Nat, k ≤ l.length ∧ i = .int .i64 k ∧ SL w.heap.size w wr [pOwn cInt 1 3 v ((l.take k).map g)]) (fun _ i _ => l.length - (intOf i).toNat)
 case atStart => exact ⟨0, by omega, rfl, hS⟩
 case round =>
  clear hS
  obtain ⟨k, hk, rfl, hSr⟩ := hrel
  have hLr := hL.below hSr.b
  by_cases hlt : k < l.length
  ·have hmem := atD_mem hlt
   have ht := take_snoc hlt
   have hlen : ((l.take k).map g).length ≤ 1048576 := by simp; omega
   obtain ⟨x, hx⟩ : ∃ x, x = atD 0 l k := ⟨_, rfl⟩
   rw [← hx] at hmem ht
   have HX := hid hx; have HT := hid ht
   clear hx ht
   go_wp2_with ((with_reducible refine wpList_idx _ 0 E_ints F_int cInt1 wU wU (hLr) oD oD (fun _ => wU) (fun _ => ?_)); rw [← HX.out])
   refine (H.out x hmem _ hSr.b).mono ?_
   rintro e w1 ⟨rfl, b1⟩
   have hS1 := hSr.mono b1
   go_wp2_with ((with_reducible refine wpList_pushL (y := (g x)) 0 E_ints wU wU (hS1) wU cIntO ⟨rfl, rfl⟩ (by first | with_unfolding_all rfl | simp) wU (by first | omega | (simp; omega)) (by first | omega | (simp; omega)) ?_); intro v2 w2 hS2)
   exact ⟨⟨k + 1, by omega, by go_num, by rw [HT.out, List.map_append]; exact hS2⟩, by simp [intOf]; omega⟩
  ·have hkk : k = l.length := by omega
   subst hkk
   rw [List.take_length] at hSr
   go_wp2_with fail
   go_ret
   exact ⟨_, rfl, hSr.own 0 rfl, hSr.b⟩

/-- mapped with a function of the program, of which the places are given. -/
theorem mappedY_any (p1 : Value) (g : Int → Int) (al : Option Addr) (cl : Nat) (l : List Int) (w : World) (hL : Ints w al cl l) (hn : l.length ≤ 1048576)
  (HF : ∀ x ∈ l, ∀ w', Below w.heap.size w w' → Calls Tryz.prog 73 #[.int .i64 x, p1] w' fun r w'' => r = .returned (.int .i64 (g x)) ∧ Below w'.heap.size w' w'') :
  Calls Tryz.prog 69 #[.slice al l.length cl, .func (.func 73) #[] #[p1]] w fun r w' => ∃ v, r = .returned v ∧ OwnI w.heap.size w' v (l.map g) ∧ Below w.heap.size w w' := by
 have hcap := hL.le
 have hmx := hL.max
 have H := hid HF
 clear HF
 have hS := (SL.nil w).nilS (α := Int) (e := 3) cIntS
 go_enter Tryz.func69, Tryz.ntmps69
 go_wp2_with fail
 go_loopw [5, 10] (fun v i wr => ∃ k : Nat, k ≤ l.length ∧ i = .int .i64 k ∧ SL w.heap.size w wr [pOwn cInt 1 3 v ((l.take k).map g)]) (fun _ i _ => l.length - (intOf i).toNat)
 case atStart => exact ⟨0, by omega, rfl, hS⟩
 case round =>
  clear hS
  obtain ⟨k, hk, rfl, hSr⟩ := hrel
  have hLr := hL.below hSr.b
  by_cases hlt : k < l.length
  ·have hmem := atD_mem hlt
   have ht := take_snoc hlt
   have hlen : ((l.take k).map g).length ≤ 1048576 := by simp; omega
   obtain ⟨x, hx⟩ : ∃ x, x = atD 0 l k := ⟨_, rfl⟩
   rw [← hx] at hmem ht
   have HX := hid hx; have HT := hid ht
   clear hx ht
   go_wp2_with ((with_reducible refine wpList_idx _ 0 E_ints F_int cInt1 wU wU (hLr) oD oD (fun _ => wU) (fun _ => ?_)); rw [← HX.out])
   refine (H.out x hmem _ hSr.b).mono ?_
   rintro e w1 ⟨rfl, b1⟩
   have hS1 := hSr.mono b1
   go_wp2_with ((with_reducible refine wpList_pushL (y := (g x)) 0 E_ints wU wU (hS1) wU cIntO ⟨rfl, rfl⟩ (by first | with_unfolding_all rfl | simp) wU (by first | omega | (simp; omega)) (by first | omega | (simp; omega)) ?_); intro v2 w2 hS2)
   exact ⟨⟨k + 1, by omega, by go_num, by rw [HT.out, List.map_append]; exact hS2⟩, by simp [intOf]; omega⟩
  ·have hkk : k = l.length := by omega
   subst hkk
   rw [List.take_length] at hSr
   go_wp2_with fail
   go_ret
   exact ⟨_, rfl, hSr.own 0 rfl, hSr.b⟩

theorem strands1_any (m : MacV) (ad : Option Addr) (cap : Nat) (bm bn : Nat) (s n : Int) (w : World) (hm : w.heap[bm]? = some (.cells (mC m ad cap) 24)) (hn : w.heap[bn]? = some (.cells #[.int .i64 n] 3)) (hR : Ints w ad cap m.sw) (hg : m.gears ≤ 16) (h0 : 0 ≤ s) (h1 : s < 4 * m.gears) (n0 : 0 ≤ n) (n1 : n ≤ 9223372036854775807) :
  Calls Tryz.prog 71 #[.int .i64 s, .pointer (some ⟨bm, 0, none⟩), .pointer (some ⟨bn, 0, none⟩)] w fun r w' => r = .returned (.int .i64 (itM m s n.toNat)) ∧ Below w.heap.size w w' := by
 have CA := fun w h => after_any m ad cap s n w h hg h0 h1 n0 n1
 have HA := hid CA
 clear CA
 go_enter Tryz.func71, Tryz.ntmps71
 go_wp2_with (first | (with_reducible refine wpList_ldS (n := 4) (us := mC m ad cap) A_mach kR wU wU (by assumption) wU wU ?_) | (with_reducible refine wpList_ldB F_int wU wU hn wU ?_))
 refine (HA.out _ hR).mono ?_
 rintro e w1 ⟨rfl, b1⟩
 go_wp2_with fail
 go_ret
 exact ⟨rfl, b1⟩
theorem strands2_any (a : Option Addr) (cap : Nat) (L : List Int) (b : Nat) (x : Int) (w : World) (hb : w.heap[b]? = some (.cells #[.slice a L.length cap] 22)) (hL : Ints w a cap L) :
  Calls Tryz.prog 73 #[.int .i64 x, .pointer (some ⟨b, 0, none⟩)] w fun r w' => r = .returned (.int .i64 ((idxO L x).getD (-1))) ∧ Below w.heap.size w w' := by
 have CI := fun w h => sIndexO_any a cap L x w h
 have HI := hid CI
 clear CI
 go_enter Tryz.func73, Tryz.ntmps73
 go_wp2_with (with_reducible refine wpList_ldB F_sliceM wU wU hb wU ?_)
 refine (HI.out _ hL).mono ?_
 rintro e w' ⟨rfl, rfl⟩
 go_wp2_with fail
 go_ret
 exact ⟨rfl, Below.refl _ _⟩

noncomputable def strandsL (m : MacV) (l : List Int) (n : Int) : List Int := (orderM m l).map fun c => (idxO (orderM m (atL m l n.toNat)) c).getD (-1)
section
variable {ops : Array Oper} {rest : List Oper} {a : Act} {Q : Exit → Act → World → Prop} {w0 w : World} {L : List Pc} {B : Nat} {ty : TypeId} {p : String} {af : Array Edge}
theorem wpList_sto1 {x y : Operand} {k : Nat} {u v : Value} {T : TypeId} (i : Nat) (hx : a.eval x = .pointer (some ⟨k, 0, none⟩)) (hy : a.eval y = v) (hS : SL B w0 w L) (hi : L[i]? = some (pBlk k (.cells #[u] T (0, 0))))
  (hK : ∀ w', SL B w0 w' (L.set i (pBlk k (.cells #[v] T (0, 0)))) → wpList Tryz.prog ops Q rest (a.put none undef) w') (hv : ∃ a n c, v = .slice a n c := by exact ⟨_, _, _, rfl⟩) :
  wpList Tryz.prog ops Q (⟨none, .store 22 x y, ty, p, af, none⟩ :: rest) a w := by
 obtain ⟨a0, n0, c0, rfl⟩ := hv
 have h1 := hS.cell i hi 0 rfl
 have h2 := hS.frozen i hi 0
 have h3 := hS.set i hi 0 (.slice a0 n0 c0)
 refine wpList_plain rfl fun K hK' => ?_
 have hs : (Instr.storeAt 22 (.pointer (some ⟨k, 0, none⟩)) (.slice a0 n0 c0)).run Tryz.prog w = .ok () (w.setCell ⟨k, 0, none⟩ (.slice a0 n0 c0)) := by
  simp [go_sem, h1, h2]
 unfold Oper.wp
 simp only [execOp, hx, hy]
 simp [hs, Result.andThen]
 exact hK' _ _ (hK _ h3)
end

theorem mStrands_any (m : MacV) (ad : Option Addr) (cap : Nat) (al : Option Addr) (cl : Nat) (l : List Int) (n : Int) (w : World) (hR : Ints w ad cap m.sw) (hL : Ints w al cl l) (HK : ChkL m ad cap al cl l) :
  Calls Tryz.prog 17 #[mV m ad cap, .slice al l.length cl, .int .i64 n] w fun r w' => ∃ v, r = .returned (.tuple #[v, .int .i64 (weaveE m l n)]) ∧ OwnI w.heap.size w' v (if weaveE m l n = 0 then strandsL m l n else []) ∧ Below w.heap.size w w' := by
 have hcap := hL.le
 have hmx := hL.max
 have hS := ((SL.nil w).box (.cells (mC m ad cap) 24)).box (.cells #[.int .i64 n] 3)
 simp only [World.size_alloc] at hS
 have q1 := (hS.blk 1 rfl).1
 have R1 := hR.below hS.b
 have L1 := hL.below hS.b
 have CW := checkWeave_any m ad cap al cl l n _ R1 L1 HK
 by_cases he : weaveE m l n = 0
 ·obtain ⟨hok, hr, hl12, hn0, hn1, hme⟩ := weaveE_zero he
  have hlo := hok.ok.lo
  have hhi := hok.ok.hi
  have hrng := hok.rng
  rw [if_pos he]
  rw [he] at CW ⊢
  have CO := fun w h => order_any m ad cap al cl l w h (by omega) hhi
  have CO2 := fun a c w (h : Ints w a c (atL m l n.toNat)) => order_any m ad cap a c (atL m l n.toNat) w h (by omega) hhi
  have hol := orderM_len m l
  have hol2 : (orderM m l).length ≤ 1048576 := by omega
  have hat : l.map (fun s => itM m s n.toNat) = atL m l n.toNat := rfl
  have hstr : strandsL m l n = (orderM m l).map fun c => (idxO (orderM m (atL m l n.toNat)) c).getD (-1) := rfl
  rw [hstr]
  have HC := hid CW; have HO := hid CO; have HO2 := hid CO2; have HRNG := hid hrng; have HAT := hid hat
  obtain ⟨O2, hO2⟩ : ∃ O2, O2 = orderM m (atL m l n.toNat) := ⟨_, rfl⟩
  rw [← hO2] at HO2 ⊢
  clear CW CO CO2 hok he hr hme HK hstr hrng hat hO2 hol
  go_enter Tryz.func17, Tryz.ntmps17
  have q0 := (hS.blk 0 rfl).1
  go_wp2_with (first | (with_reducible refine wpList_ldS (n := 4) (us := mC m ad cap) A_mach kR wU wU (by assumption) wU wU ?_) | (with_reducible refine wpList_ldB F_int wU wU q0 wU ?_))
  refine HC.out.mono ?_
  rintro e w1 ⟨rfl, b1⟩
  have hS1 := hS.mono b1
  have q2 := (hS1.blk 1 rfl).1
  have q3 := (hS1.blk 0 rfl).1
  clear q0 q1
  go_wp2_with fail
  refine wp_regionK (C := (fun V => Below w.heap.size w V ∧ V.heap[w.heap.size]? = some (.cells (mC m ad cap) 24))) [0, 1, 2] [_, _, _] 4 (by simp only [List.map_cons, List.map_nil, List.getElem?_toArray]; rfl) rfl kR kR kR (⟨hS1.b.drew, q2⟩) ?_
  refine ⟨_, yieldsK_blkC (n := 4) A_mach kR (fun V h => h.2) rfl wU wU, ?_⟩
  go_frame
  refine ⟨_, yieldsK_val wU (fun w' => by with_unfolding_all exact rfl), ?_⟩
  go_frame
  refine ⟨.func (.func 71) #[] #[.pointer (some ⟨w.heap.size, 0, none⟩), .pointer (some ⟨w.heap.size + 1, 0, none⟩)], yieldsK_val wU (fun w' => by first | (go_simp; done) | (go_simp; rfl)), ?_⟩
  go_frame
  unfold wpPureK
  have hVd : ({ w1 with drawn := w1.drawn + 1 } : World) = w1.drew := rfl
  rw [hVd]
  have hS2 := hS1.drew
  have q4 := (hS2.blk 1 rfl).1
  refine wpAnyC_on [3, 5] kR (by simp) ?_
  simp only [List.forall_mem_cons, List.not_mem_nil, false_implies, implies_true, and_true]
  refine ⟨?_, ?_⟩
  ·refine wpOp_call (f := 69) (args := #[.slice al l.length cl, .func (.func 71) #[] #[.pointer (some ⟨w.heap.size, 0, none⟩), .pointer (some ⟨w.heap.size + 1, 0, none⟩)]]) (by rw [List.getElem?_toArray]; rfl) wU (by first | (go_simp; done) | (simp [execOp, Act.eval, Result.andThen]; done) | (simp [execOp, Act.eval, Result.andThen]; rfl)) ?_
   refine (mappedZ_any _ _ (fun s => itM m s n.toNat) al cl l _ (hL.below hS2.b) (by omega) (fun x hx w' hw' => strands1_any m ad cap _ _ x n w' ((hw'.block _ (hS2.blk 1 rfl).2.2).trans (hS2.blk 1 rfl).1) ((hw'.block _ (hS2.blk 0 rfl).2.2).trans (hS2.blk 0 rfl).1) ((hR.below hS2.b).below hw') hhi (HRNG.out x hx).1 (HRNG.out x hx).2 (by omega) (by omega))).mono ?_
   rintro e w3 ⟨v, rfl, ho, b3⟩
   rw [HAT.out] at ho
   obtain ⟨a3, c3, rfl, hr3, _⟩ := ho.reps
   have hT3 := hS2.call (SL.ofOwn ho b3)
   simp only [List.cons_append, List.nil_append] at hT3
   refine ⟨_, rfl, ⟨hT3.b, (hT3.blk 2 rfl).1⟩, ?_⟩
   go_frame
   refine wpAnyC_on [4, 5] kR (by simp) ?_
   simp only [List.forall_mem_cons, List.not_mem_nil, false_implies, implies_true, and_true]
   refine ⟨?_, ?_⟩
   ·refine wpOp_call (f := 63) (args := #[mV m ad cap, .slice a3 (atL m l n.toNat).length c3]) (by rw [List.getElem?_toArray]; rfl) wU (by first | (go_simp; done) | (simp [execOp, Act.eval, Result.andThen]; done) | (simp [execOp, Act.eval, Result.andThen]; rfl)) ?_
    refine (HO2.out a3 c3 _ (hT3.rd 0 rfl)).mono ?_
    rintro e w4 ⟨v4, rfl, ho4, b4⟩
    have hT4 := hT3.call (SL.ofOwn ho4 b4)
    simp only [List.cons_append, List.nil_append] at hT4
    obtain ⟨a4, c4, rfl, _⟩ := hT4.slice 0 rfl
    refine ⟨_, rfl, ⟨hT4.b, (hT4.blk 3 rfl).1⟩, ?_⟩
    go_frame
    refine wpAnyC_on [5] kR (by simp) ?_
    simp only [List.forall_mem_cons, List.not_mem_nil, false_implies, implies_true, and_true]
    have hT5 := hT4.box (.cells #[.slice none 0 0] 22)
    refine wpOp_value (v := .pointer (some ⟨(w4).heap.size, 0, none⟩)) (w' := (w4).alloc (.cells #[.slice none 0 0] 22)) (by rw [List.getElem?_toArray]; rfl) wU (by first | (go_simp; done) | (go_simp; rfl) | (simp [execOp, Act.eval, Result.andThen]; done)) ?_
    refine ⟨⟨hT5.b, (hT5.blk 4 rfl).1⟩, ?_⟩
    go_frame
    obtain ⟨W5, hW5⟩ : ∃ V, V = (w4).alloc (.cells #[.slice none 0 0] 22) := ⟨_, rfl⟩
    obtain ⟨b9, hb9⟩ : ∃ b, b = (w4).heap.size := ⟨_, rfl⟩
    rw [← hW5, ← hb9] at hT5
    simp only [← hW5, ← hb9]
    clear hW5 hb9
    refine wpAnyC_on [6] kR (by simp) ?_
    simp only [List.forall_mem_cons, List.not_mem_nil, false_implies, implies_true, and_true]
    refine wpOp_of_list (by rw [List.getElem?_toArray]; rfl) ?_
    refine wpList_sto1 (v := .slice a4 O2.length c4) 0 wU wU hT5 rfl ?_
    intro w6 hT6
    refine ⟨⟨hT6.b, (hT6.blk 4 rfl).1⟩, ?_⟩
    go_frame
    refine wpAnyC_rest [] [] rfl rfl kR kR kR ⟨hT6.b, (hT6.blk 4 rfl).1⟩ ?_
    unfold wpPure
    refine of_wpList_nil (P := Tryz.prog) (ops := #[]) ?_
    have q7 := (hT6.blk 4 rfl).1
    go_wp2_with (with_reducible refine wpList_ldS (n := 4) (us := mC m ad cap) A_mach kR wU wU (by assumption) wU wU ?_)
    refine (HO.out _ (hL.below hT6.b)).mono ?_
    rintro e w7 ⟨v7, rfl, ho7, b7⟩
    obtain ⟨a7, c7, rfl, hr7, _⟩ := ho7.reps
    have hU := hT6.call (SL.ofOwn ho7 b7)
    simp only [List.cons_append, List.nil_append] at hU
    go_wp2_with fail
    refine (mappedY_any _ (fun c => (idxO O2 c).getD (-1)) a7 c7 _ _ hr7 hol2 (fun x hx w' hw' => strands2_any a4 c4 O2 _ x w' ((hw'.block _ (hU.blk 1 rfl).2.2).trans (hU.blk 1 rfl).1) ((hU.rd 2 rfl).below hw'))).mono ?_
    rintro e w8 ⟨v8, rfl, ho8, b8⟩
    go_wp2_with fail
    go_ret2
    exact ⟨_, rfl, ho8.mono hU.b.size, bnext hU.b b8⟩

   ·have hT4 := hT3.box (.cells #[.slice none 0 0] 22)
    refine wpOp_value (v := .pointer (some ⟨(w3).heap.size, 0, none⟩)) (w' := (w3).alloc (.cells #[.slice none 0 0] 22)) (by rw [List.getElem?_toArray]; rfl) wU (by first | (go_simp; done) | (go_simp; rfl) | (simp [execOp, Act.eval, Result.andThen]; done)) ?_
    refine ⟨⟨hT4.b, (hT4.blk 3 rfl).1⟩, ?_⟩
    go_frame
    obtain ⟨W5, hW5⟩ : ∃ V, V = (w3).alloc (.cells #[.slice none 0 0] 22) := ⟨_, rfl⟩
    obtain ⟨b9, hb9⟩ : ∃ b, b = (w3).heap.size := ⟨_, rfl⟩
    rw [← hW5, ← hb9] at hT4
    simp only [← hW5, ← hb9]
    clear hW5 hb9
    refine wpAnyC_on [4] kR (by simp) ?_
    simp only [List.forall_mem_cons, List.not_mem_nil, false_implies, implies_true, and_true]
    refine wpOp_call (f := 63) (args := #[mV m ad cap, .slice a3 (atL m l n.toNat).length c3]) (by rw [List.getElem?_toArray]; rfl) wU (by first | (go_simp; done) | (simp [execOp, Act.eval, Result.andThen]; done) | (simp [execOp, Act.eval, Result.andThen]; rfl)) ?_
    refine (HO2.out a3 c3 _ (hT4.rd 1 rfl)).mono ?_
    rintro e w4 ⟨v4, rfl, ho4, b4⟩
    have hT5 := hT4.call (SL.ofOwn ho4 b4)
    simp only [List.cons_append, List.nil_append] at hT5
    obtain ⟨a4, c4, rfl, _⟩ := hT5.slice 0 rfl
    refine ⟨_, rfl, ⟨hT5.b, (hT5.blk 4 rfl).1⟩, ?_⟩
    go_frame
    refine wpAnyC_on [6] kR (by simp) ?_
    simp only [List.forall_mem_cons, List.not_mem_nil, false_implies, implies_true, and_true]
    refine wpOp_of_list (by rw [List.getElem?_toArray]; rfl) ?_
    refine wpList_sto1 (v := .slice a4 O2.length c4) 1 wU wU hT5 rfl ?_
    intro w6 hT6
    refine ⟨⟨hT6.b, (hT6.blk 4 rfl).1⟩, ?_⟩
    go_frame
    refine wpAnyC_rest [] [] rfl rfl kR kR kR ⟨hT6.b, (hT6.blk 4 rfl).1⟩ ?_
    unfold wpPure
    refine of_wpList_nil (P := Tryz.prog) (ops := #[]) ?_
    have q7 := (hT6.blk 4 rfl).1
    go_wp2_with (with_reducible refine wpList_ldS (n := 4) (us := mC m ad cap) A_mach kR wU wU (by assumption) wU wU ?_)
    refine (HO.out _ (hL.below hT6.b)).mono ?_
    rintro e w7 ⟨v7, rfl, ho7, b7⟩
    obtain ⟨a7, c7, rfl, hr7, _⟩ := ho7.reps
    have hU := hT6.call (SL.ofOwn ho7 b7)
    simp only [List.cons_append, List.nil_append] at hU
    go_wp2_with fail
    refine (mappedY_any _ (fun c => (idxO O2 c).getD (-1)) a7 c7 _ _ hr7 hol2 (fun x hx w' hw' => strands2_any a4 c4 O2 _ x w' ((hw'.block _ (hU.blk 2 rfl).2.2).trans (hU.blk 2 rfl).1) ((hU.rd 1 rfl).below hw'))).mono ?_
    rintro e w8 ⟨v8, rfl, ho8, b8⟩
    go_wp2_with fail
    go_ret2
    exact ⟨_, rfl, ho8.mono hU.b.size, bnext hU.b b8⟩

  ·have hT3 := hS2.box (.cells #[.slice none 0 0] 22)
   refine wpOp_value (v := .pointer (some ⟨(w1.drew).heap.size, 0, none⟩)) (w' := (w1.drew).alloc (.cells #[.slice none 0 0] 22)) (by rw [List.getElem?_toArray]; rfl) wU (by first | (go_simp; done) | (go_simp; rfl) | (simp [execOp, Act.eval, Result.andThen]; done)) ?_
   refine ⟨⟨hT3.b, (hT3.blk 2 rfl).1⟩, ?_⟩
   go_frame
   obtain ⟨W5, hW5⟩ : ∃ V, V = (w1.drew).alloc (.cells #[.slice none 0 0] 22) := ⟨_, rfl⟩
   obtain ⟨b9, hb9⟩ : ∃ b, b = (w1.drew).heap.size := ⟨_, rfl⟩
   rw [← hW5, ← hb9] at hT3
   simp only [← hW5, ← hb9]
   clear hW5 hb9
   refine wpAnyC_on [3] kR (by simp) ?_
   simp only [List.forall_mem_cons, List.not_mem_nil, false_implies, implies_true, and_true]
   refine wpOp_call (f := 69) (args := #[.slice al l.length cl, .func (.func 71) #[] #[.pointer (some ⟨w.heap.size, 0, none⟩), .pointer (some ⟨w.heap.size + 1, 0, none⟩)]]) (by rw [List.getElem?_toArray]; rfl) wU (by first | (go_simp; done) | (simp [execOp, Act.eval, Result.andThen]; done) | (simp [execOp, Act.eval, Result.andThen]; rfl)) ?_
   refine (mappedZ_any _ _ (fun s => itM m s n.toNat) al cl l _ (hL.below hT3.b) (by omega) (fun x hx w' hw' => strands1_any m ad cap _ _ x n w' ((hw'.block _ (hT3.blk 2 rfl).2.2).trans (hT3.blk 2 rfl).1) ((hw'.block _ (hT3.blk 1 rfl).2.2).trans (hT3.blk 1 rfl).1) ((hR.below hT3.b).below hw') hhi (HRNG.out x hx).1 (HRNG.out x hx).2 (by omega) (by omega))).mono ?_
   rintro e w3 ⟨v, rfl, ho, b3⟩
   rw [HAT.out] at ho
   obtain ⟨a3, c3, rfl, hr3, _⟩ := ho.reps
   have hT4 := hT3.call (SL.ofOwn ho b3)
   simp only [List.cons_append, List.nil_append] at hT4
   refine ⟨_, rfl, ⟨hT4.b, (hT4.blk 3 rfl).1⟩, ?_⟩
   go_frame
   refine wpAnyC_on [4] kR (by simp) ?_
   simp only [List.forall_mem_cons, List.not_mem_nil, false_implies, implies_true, and_true]
   refine wpOp_call (f := 63) (args := #[mV m ad cap, .slice a3 (atL m l n.toNat).length c3]) (by rw [List.getElem?_toArray]; rfl) wU (by first | (go_simp; done) | (simp [execOp, Act.eval, Result.andThen]; done) | (simp [execOp, Act.eval, Result.andThen]; rfl)) ?_
   refine (HO2.out a3 c3 _ (hT4.rd 0 rfl)).mono ?_
   rintro e w4 ⟨v4, rfl, ho4, b4⟩
   have hT5 := hT4.call (SL.ofOwn ho4 b4)
   simp only [List.cons_append, List.nil_append] at hT5
   obtain ⟨a4, c4, rfl, _⟩ := hT5.slice 0 rfl
   refine ⟨_, rfl, ⟨hT5.b, (hT5.blk 4 rfl).1⟩, ?_⟩
   go_frame
   refine wpAnyC_on [6] kR (by simp) ?_
   simp only [List.forall_mem_cons, List.not_mem_nil, false_implies, implies_true, and_true]
   refine wpOp_of_list (by rw [List.getElem?_toArray]; rfl) ?_
   refine wpList_sto1 (v := .slice a4 O2.length c4) 2 wU wU hT5 rfl ?_
   intro w6 hT6
   refine ⟨⟨hT6.b, (hT6.blk 4 rfl).1⟩, ?_⟩
   go_frame
   refine wpAnyC_rest [] [] rfl rfl kR kR kR ⟨hT6.b, (hT6.blk 4 rfl).1⟩ ?_
   unfold wpPure
   refine of_wpList_nil (P := Tryz.prog) (ops := #[]) ?_
   have q7 := (hT6.blk 4 rfl).1
   go_wp2_with (with_reducible refine wpList_ldS (n := 4) (us := mC m ad cap) A_mach kR wU wU (by assumption) wU wU ?_)
   refine (HO.out _ (hL.below hT6.b)).mono ?_
   rintro e w7 ⟨v7, rfl, ho7, b7⟩
   obtain ⟨a7, c7, rfl, hr7, _⟩ := ho7.reps
   have hU := hT6.call (SL.ofOwn ho7 b7)
   simp only [List.cons_append, List.nil_append] at hU
   go_wp2_with fail
   refine (mappedY_any _ (fun c => (idxO O2 c).getD (-1)) a7 c7 _ _ hr7 hol2 (fun x hx w' hw' => strands2_any a4 c4 O2 _ x w' ((hw'.block _ (hU.blk 3 rfl).2.2).trans (hU.blk 3 rfl).1) ((hU.rd 1 rfl).below hw'))).mono ?_
   rintro e w8 ⟨v8, rfl, ho8, b8⟩
   go_wp2_with fail
   go_ret2
   exact ⟨_, rfl, ho8.mono hU.b.size, bnext hU.b b8⟩
 ·obtain ⟨E, hE⟩ : ∃ E, E = weaveE m l n := ⟨_, rfl⟩
  rw [if_neg he]
  rw [← hE] at CW he ⊢
  have hne : (E != 0) = true := by simpa using he
  have HC := hid CW
  have q0 := (hS.blk 0 rfl).1
  clear hE CW HK
  go_enter Tryz.func17, Tryz.ntmps17
  go_wp2_with (first | (with_reducible refine wpList_ldS (n := 4) (us := mC m ad cap) A_mach kR wU wU (by assumption) wU wU ?_) | (with_reducible refine wpList_ldB F_int wU wU q0 wU ?_))
  refine HC.out.mono ?_
  rintro e w1 ⟨rfl, b1⟩
  have hS1 := hS.mono b1
  go_wp2_with fail
  go_ret2
  exact ⟨_, rfl, own_nil cIntS, hS1.b⟩
end Go.Proofs.YtoebgfgihfjnnaaGreatDoor

namespace Go.Proofs.YtoebgfgihfjnnaaGreatDoor
set_option maxRecDepth 100000
/-- the rank of a slot from left to right. -/
def rankM (m : MacV) (s : Int) : Int := if s % 4 = 0 then 4 * (s / 4) else if s % 4 = 2 then 4 * (s / 4) + 3 else if (decide (s % 4 = 1)) = fwdM m (s / 4) then 4 * (s / 4) + 1 else 4 * (s / 4) + 2
theorem rank_slot (m : MacV) (g : Int) : rankM m (slotG m g 0) = 4 * g ∧ rankM m (slotG m g 1) = 4 * g + 1 ∧ rankM m (slotG m g 2) = 4 * g + 2 ∧ rankM m (slotG m g 3) = 4 * g + 3 := by
 have e0 : slotG m g 0 = 4 * g := rfl
 have e1 : slotG m g 1 = if fwdM m g then 4 * g + 1 else 4 * g + 3 := rfl
 have e2 : slotG m g 2 = if fwdM m g then 4 * g + 3 else 4 * g + 1 := rfl
 have e3 : slotG m g 3 = 4 * g + 2 := rfl
 rw [e0, e1, e2, e3]
 have d0 : (4 * g) / 4 = g := by omega
 have d1 : (4 * g + 1) / 4 = g := by omega
 have d2 : (4 * g + 2) / 4 = g := by omega
 have d3 : (4 * g + 3) / 4 = g := by omega
 have m0 : (4 * g) % 4 = 0 := by omega
 have m1 : (4 * g + 1) % 4 = 1 := by omega
 have m2 : (4 * g + 2) % 4 = 2 := by omega
 have m3 : (4 * g + 3) % 4 = 3 := by omega
 unfold rankM
 cases hf : fwdM m g
 ·simp [m0, m1, m2, m3, d0, d1, d2, d3, hf]
 ·simp [m0, m1, m2, m3, d0, d1, d2, d3, hf]
theorem slot_rank {m : MacV} {s : Int} : slotG m (s / 4) ((rankM m s % 4).toNat) = s ∧ rankM m s / 4 = s / 4 := by
 have hm : s % 4 = 0 ∨ s % 4 = 1 ∨ s % 4 = 2 ∨ s % 4 = 3 := by omega
 unfold rankM
 cases hf : fwdM m (s / 4)
 ·rcases hm with h | h | h | h
  ·rw [if_pos h, show (4 * (s / 4)) % 4 = 0 by omega]
   exact ⟨by show 4 * (s / 4) = s; omega, by omega⟩
  ·rw [if_neg (by omega), if_neg (by omega), if_neg (by simp [h]), show (4 * (s / 4) + 2) % 4 = 2 by omega]
   refine ⟨?_, by omega⟩
   show (if fwdM m (s / 4) then 4 * (s / 4) + 3 else 4 * (s / 4) + 1) = s
   rw [hf]; simp; omega
  ·rw [if_neg (by omega), if_pos h, show (4 * (s / 4) + 3) % 4 = 3 by omega]
   exact ⟨by show 4 * (s / 4) + 2 = s; omega, by omega⟩
  ·rw [if_neg (by omega), if_neg (by omega), if_pos (by simp [h]), show (4 * (s / 4) + 1) % 4 = 1 by omega]
   refine ⟨?_, by omega⟩
   show (if fwdM m (s / 4) then 4 * (s / 4) + 1 else 4 * (s / 4) + 3) = s
   rw [hf]; simp; omega
 ·rcases hm with h | h | h | h
  ·rw [if_pos h, show (4 * (s / 4)) % 4 = 0 by omega]
   exact ⟨by show 4 * (s / 4) = s; omega, by omega⟩
  ·rw [if_neg (by omega), if_neg (by omega), if_pos (by simp [h]), show (4 * (s / 4) + 1) % 4 = 1 by omega]
   refine ⟨?_, by omega⟩
   show (if fwdM m (s / 4) then 4 * (s / 4) + 1 else 4 * (s / 4) + 3) = s
   rw [hf]; simp; omega
  ·rw [if_neg (by omega), if_pos h, show (4 * (s / 4) + 3) % 4 = 3 by omega]
   exact ⟨by show 4 * (s / 4) + 2 = s; omega, by omega⟩
  ·rw [if_neg (by omega), if_neg (by omega), if_neg (by simp [h]), show (4 * (s / 4) + 2) % 4 = 2 by omega]
   refine ⟨?_, by omega⟩
   show (if fwdM m (s / 4) then 4 * (s / 4) + 3 else 4 * (s / 4) + 1) = s
   rw [hf]; simp; omega
/-- the slot with a rank. -/
def ofRank (m : MacV) (r : Int) : Int := slotG m (r / 4) (r % 4).toNat
theorem ofRank_iff {m : MacV} {s r : Int} : rankM m s = r ↔ s = ofRank m r := by
 constructor
 ·rintro rfl
  unfold ofRank
  obtain ⟨h1, h2⟩ := slot_rank (m := m) (s := s)
  rw [h2, h1]
 ·rintro rfl
  unfold ofRank
  obtain ⟨k0, k1, k2, k3⟩ := rank_slot m (r / 4)
  have hm : r % 4 = 0 ∨ r % 4 = 1 ∨ r % 4 = 2 ∨ r % 4 = 3 := by omega
  rcases hm with h | h | h | h
  ·rw [h]; show rankM m (slotG m (r / 4) 0) = r; rw [k0]; omega
  ·rw [h]; show rankM m (slotG m (r / 4) 1) = r; rw [k1]; omega
  ·rw [h]; show rankM m (slotG m (r / 4) 2) = r; rw [k2]; omega
  ·rw [h]; show rankM m (slotG m (r / 4) 3) = r; rw [k3]; omega
/-- the carrier with a rank, or -1. -/
def atR (m : MacV) (l : List Int) (r : Int) : Int := (idxO l (ofRank m r)).getD (-1)
theorem atR_opG (m : MacV) (l : List Int) (g : Int) (i : Nat) (hi : i < 4) : atR m l (4 * g + i) = (opG m l g i).getD (-1) := by
 unfold atR ofRank opG
 rw [show (4 * g + (i : Int)) / 4 = g by omega, show ((4 * g + (i : Int)) % 4).toNat = i by omega]
theorem idxO_nonneg {l : List Int} {x i : Int} (h : idxO l x = some i) : 0 ≤ i := (idxO_some h).1
/-- the carriers in the order of their ranks. -/
def ordR (m : MacV) (l : List Int) (k : Nat) : List Int := (List.range k).filterMap fun (r : Nat) => idxO l (ofRank m r)
theorem ordR_step (m : MacV) (l : List Int) (k : Nat) : ordR m l (k + 1) = ordR m l k ++ (if 0 ≤ atR m l k then [atR m l k] else []) := by
 unfold ordR atR
 rw [List.range_succ, List.filterMap_append]
 congr 1
 cases h : idxO l (ofRank m (k : Int)) with
 | none => simp [h]
 | some i =>
  have := idxO_nonneg h
  simp [h, this]
theorem ordR_gears (m : MacV) (l : List Int) : ∀ G : Nat, ordR m l (4 * G) = ((List.range G).map fun (g : Nat) => (g : Int)).flatMap (orderG m l)
 | 0 => rfl
 | G + 1 => by
   have ih := ordR_gears m l G
   rw [List.range_succ, List.map_append, List.flatMap_append, ← ih]
   have e : 4 * (G + 1) = 4 * G + 1 + 1 + 1 + 1 := by omega
   have f : ∀ k : Nat, ordR m l (k + 1) = ordR m l k ++ [idxO l (ofRank m (k : Int))].filterMap id := fun k => by
     unfold ordR
     rw [List.range_succ, List.filterMap_append]
     congr 1
   rw [e, f, f, f, f]
   simp only [List.append_assoc, ← List.filterMap_append, List.map_cons, List.map_nil, List.flatMap_cons, List.flatMap_nil, List.append_nil]
   congr 1
   rw [orderG_eq]
   unfold catO opG ofRank
   have a0 : ((4 * G : Nat) : Int) / 4 = G ∧ (((4 * G : Nat) : Int) % 4).toNat = 0 := by omega
   have a1 : ((4 * G + 1 : Nat) : Int) / 4 = G ∧ (((4 * G + 1 : Nat) : Int) % 4).toNat = 1 := by omega
   have a2 : ((4 * G + 1 + 1 : Nat) : Int) / 4 = G ∧ (((4 * G + 1 + 1 : Nat) : Int) % 4).toNat = 2 := by omega
   have a3 : ((4 * G + 1 + 1 + 1 : Nat) : Int) / 4 = G ∧ (((4 * G + 1 + 1 + 1 : Nat) : Int) % 4).toNat = 3 := by omega
   rw [a0.1, a0.2, a1.1, a1.2, a2.1, a2.2, a3.1, a3.2]
   rfl
theorem ordR_order (m : MacV) (l : List Int) (n : Nat) (hn : 4 * m.gears = n) : ordR m l n = orderM m l := by
 have e : n = 4 * m.gears.toNat := by omega
 rw [e, ordR_gears]
 rfl
end Go.Proofs.YtoebgfgihfjnnaaGreatDoor

namespace Go.Proofs.YtoebgfgihfjnnaaGreatDoor
open Go.RowKit
set_option maxHeartbeats 4000000
set_option maxRecDepth 100000
theorem rRank_any (m : MacV) (ad : Option Addr) (cap : Nat) (s : Int) (w : World) (hg : m.gears ≤ 16) (h0 : 0 ≤ s) (h1 : s < 4 * m.gears) :
  Calls Tryz.prog 114 #[mV m ad cap, .int .i64 s] w fun r w' => r = .returned (.int .i64 (rankM m s)) ∧ Below w.heap.size w w' := by
 obtain ⟨g, hgq⟩ : ∃ g, g = s / 4 := ⟨_, rfl⟩
 obtain ⟨q, hq⟩ : ∃ q, q = s % 4 := ⟨_, rfl⟩
 have htd : s.tdiv 4 = g := by rw [hgq, Int.tdiv_eq_ediv_of_nonneg h0]
 have htm : s.tmod 4 = q := by rw [hq, Int.tmod_eq_emod_of_nonneg h0]
 have hr : rankM m s = if q = 0 then 4 * g else if q = 2 then 4 * g + 3 else if decide (q = 1) = fwdM m g then 4 * g + 1 else 4 * g + 2 := by unfold rankM; rw [hq, hgq]
 have hq4 : q = 0 ∨ q = 1 ∨ q = 2 ∨ q = 3 := by omega
 have hg0 : 0 ≤ g ∧ g < m.gears := by omega
 have CF := fun w => rForwards_any m ad cap g w hg0.1 (by omega)
 have hw1 : IntKind.i64.wrap g = g := IntWalk.i64_in _ (by omega)
 have hS := (SL.nil w).box (.cells (mC m ad cap) 25)
 obtain ⟨R, hR⟩ : ∃ R, R = rankM m s := ⟨_, rfl⟩
 rw [← hR] at hr ⊢
 clear hq hgq hR
 rcases hq4 with rfl | rfl | rfl | rfl
 ·rw [if_pos rfl] at hr
  subst hr
  clear CF
  go_enter Tryz.func114, Tryz.ntmps114
  go_wp2_with fail
  go_ret
  exact ⟨rfl, bal (Below.refl _ _) _⟩
 ·cases hf : fwdM m g
  ·rw [hf] at CF hr
   rw [if_neg (by decide), if_neg (by decide), if_neg (by decide)] at hr
   subst hr
   have HF := hid CF
   clear CF hf
   go_enter Tryz.func114, Tryz.ntmps114
   go_wp2_with fail
   refine (HF.out _).mono ?_
   rintro e w1 ⟨rfl, b1⟩
   go_wp2_with fail
   go_ret
   exact ⟨rfl, bnext hS.b b1⟩
  ·rw [hf] at CF hr
   rw [if_neg (by decide), if_neg (by decide), if_pos (by decide)] at hr
   subst hr
   have HF := hid CF
   clear CF hf
   go_enter Tryz.func114, Tryz.ntmps114
   go_wp2_with fail
   refine (HF.out _).mono ?_
   rintro e w1 ⟨rfl, b1⟩
   go_wp2_with fail
   go_ret
   exact ⟨rfl, bnext hS.b b1⟩
 ·rw [if_neg (by decide), if_pos rfl] at hr
  subst hr
  clear CF
  go_enter Tryz.func114, Tryz.ntmps114
  go_wp2_with fail
  go_ret
  exact ⟨rfl, bal (Below.refl _ _) _⟩
 ·cases hf : fwdM m g
  ·rw [hf] at CF hr
   rw [if_neg (by decide), if_neg (by decide), if_pos (by decide)] at hr
   subst hr
   have HF := hid CF
   clear CF hf
   go_enter Tryz.func114, Tryz.ntmps114
   go_wp2_with fail
   refine (HF.out _).mono ?_
   rintro e w1 ⟨rfl, b1⟩
   go_wp2_with fail
   go_ret
   exact ⟨rfl, bnext hS.b b1⟩
  ·rw [hf] at CF hr
   rw [if_neg (by decide), if_neg (by decide), if_neg (by decide)] at hr
   subst hr
   have HF := hid CF
   clear CF hf
   go_enter Tryz.func114, Tryz.ntmps114
   go_wp2_with fail
   refine (HF.out _).mono ?_
   rintro e w1 ⟨rfl, b1⟩
   go_wp2_with fail
   go_ret
   exact ⟨rfl, bnext hS.b b1⟩
theorem atR_found {m : MacV} {l : List Int} {r : Int} {k : Nat} (hk : k < l.length) (h : rankM m (atD 0 l k) = r) (hno : ∀ j : Nat, j < k → rankM m (atD 0 l j) ≠ r) : atR m l r = k := by
 have e : ∀ j : Nat, j < l.length → l[j]? = some (atD 0 l j) := fun j hj => by simp [atD, hj]
 unfold atR
 rw [idxO_eq hk (by rw [e k hk, ← ofRank_iff.1 h]) (fun j hj => by
  rw [e j (by omega)]
  intro h2
  exact hno j hj (ofRank_iff.2 (Option.some.inj h2)))]
 rfl
theorem atR_none {m : MacV} {l : List Int} {r : Int} (hno : ∀ j : Nat, j < l.length → rankM m (atD 0 l j) ≠ r) : atR m l r = -1 := by
 unfold atR
 rw [idxO_none.2 (fun hm => by
  obtain ⟨j, hj, e⟩ := List.getElem_of_mem hm
  refine hno j hj (ofRank_iff.2 ?_)
  rw [← e]; simp [atD, hj])]
 rfl
theorem rAt_any (m : MacV) (ad : Option Addr) (cap : Nat) (al : Option Addr) (cl : Nat) (l : List Int) (r : Int) (w : World) (hL : Ints w al cl l) (hg : m.gears ≤ 16) (hl : ∀ x ∈ l, 0 ≤ x ∧ x < 4 * m.gears) (hn : l.length ≤ 64) :
  Calls Tryz.prog 76 #[mV m ad cap, .slice al l.length cl, .int .i64 r] w fun e w' => e = .returned (.int .i64 (atR m l r)) ∧ Below w.heap.size w w' := by
 have hcap := hL.le
 have hmx := hL.max
 have hS := (SL.nil w).box (.cells (mC m ad cap) 25)
 have HRK : Hid (∀ (k : Nat) w, k < l.length → _) := hid fun k w hk => rRank_any m ad cap (atD 0 l k) w hg (atD_in hl hk).1 (atD_in hl hk).2
 have HFD : Hid (∀ k : Nat, k < l.length → rankM m (atD 0 l k) = r → (∀ j : Nat, j < k → rankM m (atD 0 l j) ≠ r) → atR m l r = k) := hid fun k hk h hno => atR_found hk h hno
 have HNO : Hid ((∀ j : Nat, j < l.length → rankM m (atD 0 l j) ≠ r) → atR m l r = -1) := hid atR_none
 obtain ⟨R, hR⟩ : ∃ R, R = atR m l r := ⟨_, rfl⟩
 rw [← hR] at HFD HNO ⊢
 clear hl hR
 go_enter Tryz.func76, Tryz.ntmps76
 go_wp2_with fail
 go_loopw [7] (fun i wr => ∃ k : Nat, k ≤ l.length ∧ i = .int .i64 k ∧ (∀ j : Nat, j < k → rankM m (atD 0 l j) ≠ r) ∧ SL w.heap.size w wr [pBlk w.heap.size (.cells (mC m ad cap) 25)]) (fun i _ => l.length - (intOf i).toNat)
 case atStart => exact ⟨0, by omega, rfl, fun j hj => absurd hj (Nat.not_lt_zero j), hS⟩
 case round =>
  clear hS
  obtain ⟨k, hk, rfl, hno, hSr⟩ := hrel
  have HN := hid hno
  clear hno
  by_cases hlt : k < l.length
  ·have q1 := (hSr.blk 0 rfl).1
   have hLr := hL.below hSr.b
   have CR := fun w => HRK.out k w hlt
   obtain ⟨x, hx⟩ : ∃ x, x = atD 0 l k := ⟨_, rfl⟩
   rw [← hx] at CR
   obtain ⟨rk, hrk⟩ : ∃ rk, rk = rankM m x := ⟨_, rfl⟩
   rw [← hrk] at CR
   have HX := hid hx; have HC := hid CR; have HK := hid hrk
   clear hx CR hrk
   by_cases hrr : rk = r
   ·have hd : (rk == r) = true := by simpa using hrr
    have hR : R = k := HFD.out k hlt (by rw [← HX.out, ← HK.out]; exact hrr) HN.out
    clear hrr
    subst hR
    go_wp2_with fail
    refine wp_region_q kR kR ?_
    repeat (first | ((with_reducible refine wpB_loadS (n := 4) (us := mC m ad cap) A_rmach kR wU wU (by assumption) wU wU ?_); (try simp only [Act.put, pA, pB, pC])) | (((with_reducible refine wpB_idx2 0 E_ints F_int cInt1 wU (rfl) wU (hLr) oD oD (fun _ => wU) (fun _ => ?_)); (try simp only [Act.put, pA, pB, pC]); (try simp only [cInt])); rw [← HX.out]) | ((with_reducible refine wpB_call (.int .i64 rk) wU (fun w' => ?_) (fun w' hw' => HC.out w') ?_); (focus (go_simp; done)); (try simp only [Act.put, pA, pB, pC])) |  ((with_reducible refine wpB_load (by first | exact F_int | exact F_u64s) wU wU (by assumption) wU ?_); (try simp only [Act.put, pA, pB, pC])) | ((refine wpQ_oneG ?_ wU (fun w' => ?_) ?_); rotate_left; (go_simp; rfl); (try simp only [Act.put, pA, pB, pC])))
    refine wpQuiet_nil ?_
    intro w4 hb4
    go_wp2_with fail
    go_ret
    exact ⟨rfl, bnext hSr.b hb4⟩
   ·have hd : (rk == r) = false := by simpa using hrr
    have hno2 : ∀ j : Nat, j < k + 1 → rankM m (atD 0 l j) ≠ r := fun j hj => by
     by_cases e : j = k
     ·subst e; rw [← HX.out, ← HK.out]; exact hrr
     ·exact HN.out j (by omega)
    have HN2 := hid hno2
    clear hrr hno2
    go_wp2_with fail
    refine wp_region_q kR kR ?_
    repeat (first | ((with_reducible refine wpB_loadS (n := 4) (us := mC m ad cap) A_rmach kR wU wU (by assumption) wU wU ?_); (try simp only [Act.put, pA, pB, pC])) | (((with_reducible refine wpB_idx2 0 E_ints F_int cInt1 wU (rfl) wU (hLr) oD oD (fun _ => wU) (fun _ => ?_)); (try simp only [Act.put, pA, pB, pC]); (try simp only [cInt])); rw [← HX.out]) | ((with_reducible refine wpB_call (.int .i64 rk) wU (fun w' => ?_) (fun w' hw' => HC.out w') ?_); (focus (go_simp; done)); (try simp only [Act.put, pA, pB, pC])) |  ((with_reducible refine wpB_load (by first | exact F_int | exact F_u64s) wU wU (by assumption) wU ?_); (try simp only [Act.put, pA, pB, pC])) | ((refine wpQ_oneG ?_ wU (fun w' => ?_) ?_); rotate_left; (go_simp; rfl); (try simp only [Act.put, pA, pB, pC])))
    refine wpQuiet_nil ?_
    intro w4 hb4
    have hS4 := hSr.mono hb4
    go_wp2_with fail
    exact ⟨⟨k + 1, by omega, by go_num, HN2.out, hS4⟩, by simp [intOf]; omega⟩
  ·have hkn : k = l.length := by omega
   subst hkn
   have hR : R = -1 := HNO.out HN.out
   subst hR
   go_wp2_with fail
   go_ret
   exact ⟨rfl, hSr.b⟩
theorem ordR_len (m : MacV) (l : List Int) (k : Nat) : (ordR m l k).length ≤ k := by
 have := List.length_filterMap_le (fun (r : Nat) => idxO l (ofRank m r)) (List.range k)
 rw [List.length_range] at this
 exact this
theorem rOrder_any (m : MacV) (ad : Option Addr) (cap : Nat) (al : Option Addr) (cl : Nat) (l : List Int) (w : World) (hL : Ints w al cl l) (hg0 : 1 ≤ m.gears) (hg : m.gears ≤ 16) (hl : ∀ x ∈ l, 0 ≤ x ∧ x < 4 * m.gears) (hn : l.length ≤ 64) :
  Calls Tryz.prog 22 #[mV m ad cap, .slice al l.length cl] w fun r w' => ∃ v, r = .returned v ∧ OwnI w.heap.size w' v (orderM m l) ∧ Below w.heap.size w w' := by
 have hcap := hL.le
 have hmx := hL.max
 have hS := ((SL.nil w).box (.cells (mC m ad cap) 25)).nilS (α := Int) (e := 3) cIntS
 obtain ⟨n, hnn⟩ : ∃ n : Nat, 4 * m.gears = n := ⟨(4 * m.gears).toNat, by omega⟩
 have hn64 : n ≤ 64 := by omega
 have CN := fun w => rSlots_any m ad cap w (by omega) hg
 rw [hnn] at CN
 have HN := hid CN
 have HAT : Hid (∀ (r : Int) w, Ints w al cl l → _) := hid fun r w h => rAt_any m ad cap al cl l r w h hg hl hn
 have HST : Hid (∀ k : Nat, _) := hid fun k => ordR_step m l k
 have HLE : Hid (∀ k : Nat, (ordR m l k).length ≤ k) := hid fun k => ordR_len m l k
 rw [← ordR_order m l n hnn]
 clear CN hl hnn
 go_enter Tryz.func22, Tryz.ntmps22
 go_wp2_with fail
 go_loopw [5, 6, 7] (fun v i _ wr => ∃ k : Nat, k ≤ n ∧ i = .int .i64 k ∧ SL w.heap.size w wr [pOwn cInt 1 3 v (ordR m l k), pBlk w.heap.size (.cells (mC m ad cap) 25)]) (fun _ i _ _ => n - (intOf i).toNat)
 case atStart => exact ⟨0, by omega, rfl, hS⟩
 case round =>
  clear hS
  obtain ⟨k, hk, rfl, hSr⟩ := hrel
  have q1 := (hSr.blk 1 rfl).1
  go_wp2_with (with_reducible refine wpList_ldS (n := 4) (us := mC m ad cap) A_rmach kR wU wU (by assumption) wU wU ?_)
  refine (HN.out _).mono ?_
  rintro e w1 ⟨rfl, b1⟩
  have hS1 := hSr.mono b1
  have q2 := (hS1.blk 1 rfl).1
  by_cases hlt : k < n
  ·have hs := HST.out k
   have hle := HLE.out k
   have CA := fun w h => HAT.out (k : Int) w h
   obtain ⟨A, hA⟩ : ∃ A, A = atR m l k := ⟨_, rfl⟩
   rw [← hA] at hs CA
   have HA := hid CA
   clear CA hA
   go_wp2_with (with_reducible refine wpList_ldS (n := 4) (us := mC m ad cap) A_rmach kR wU wU (by assumption) wU wU ?_)
   refine (HA.out _ (hL.below hS1.b)).mono ?_
   rintro e w2 ⟨rfl, b2⟩
   have hS2 := hS1.mono b2
   by_cases hA0 : 0 ≤ A
   ·rw [if_pos hA0] at hs
    have hd : decide (0 ≤ A) = true := decide_eq_true hA0
    have HS := hid hs
    clear hs
    go_wp2_with ((with_reducible refine wpList_pushL (y := A) 0 E_ints wU wU (hS2) wU cIntO ⟨rfl, rfl⟩ (by first | with_unfolding_all rfl | simp) wU (by first | omega | (simp; omega)) (by first | omega | (simp; omega)) ?_); intro v5 w5 hS5)
    exact ⟨⟨k + 1, by omega, by go_num, by rw [HS.out]; exact hS5⟩, by simp [intOf]; omega⟩
   ·rw [if_neg hA0, List.append_nil] at hs
    have hd : decide (0 ≤ A) = false := decide_eq_false hA0
    have HS := hid hs
    clear hs
    go_wp2_with fail
    exact ⟨⟨k + 1, by omega, by go_num, by rw [HS.out]; exact hS2⟩, by simp [intOf]; omega⟩
  ·have hkn : k = n := by omega
   subst hkn
   go_wp2_with fail
   go_ret
   exact ⟨_, rfl, hS1.own 0 rfl, hS1.b⟩
end Go.Proofs.YtoebgfgihfjnnaaGreatDoor

namespace Go.Proofs.YtoebgfgihfjnnaaGreatDoor
open Go.RowKit
set_option maxHeartbeats 4000000
set_option maxRecDepth 100000
theorem E_rxs : ETy Tryz.prog 41 107 (.agg #[.int .i64 0, .int .i64 0, .int .i64 0]) 3 24 := ⟨Tryz.underlying41, by kernel_rfl, rfl, by decide⟩
theorem A_rxs : Aggr Tryz.prog 107 := ⟨_, Tryz.underlying107, rfl⟩
theorem rMeets_any (m : MacV) (ad : Option Addr) (cap : Nat) (al : Option Addr) (cl : Nat) (l : List Int) (n : Int) (w : World) (hR : Ints w ad cap m.sw) (hL : Ints w al cl l) (hg0 : 1 ≤ m.gears) (hg : m.gears ≤ 16) (hl : ∀ x ∈ l, 0 ≤ x ∧ x < 4 * m.gears) (hn : l.length ≤ 64) (hnd : l.Nodup) :
  Calls Tryz.prog 27 #[mV m ad cap, .slice al l.length cl, .int .i64 n] w fun r w' => r = .returned (.bool (meetsM m l n)) ∧ Below w.heap.size w w' := by
 have CM := fun w h h2 => rMeet_any m ad cap al cl l w h h2 hg0 hg hl hn hnd
 have hS := (SL.nil w).box (.cells (mC m ad cap) 25)
 unfold meetsM
 cases hf : firstM m l with
 | none =>
  rw [hf] at CM
  dsimp only [meetV] at CM
  have HM := hid CM
  clear CM hf
  go_enter Tryz.func27, Tryz.ntmps27
  go_wp2_with fail
  refine (HM.out _ (hR.below hS.b) (hL.below hS.b)).mono ?_
  rintro e w1 ⟨rfl, b1⟩
  go_wp2_with fail
  go_ret
  exact ⟨rfl, bnext hS.b b1⟩
 | some v =>
  obtain ⟨V1, V2⟩ := v
  rw [hf] at CM
  dsimp only [meetV] at CM
  have HM := hid CM
  have h0 : decide (0 ≤ (V1 : Int)) = true := by simp
  clear CM hf
  by_cases hle : (V1 : Int) ≤ n
  ·have hd : decide ((V1 : Int) ≤ n) = true := decide_eq_true hle
   go_enter Tryz.func27, Tryz.ntmps27
   go_wp2_with fail
   refine (HM.out _ (hR.below hS.b) (hL.below hS.b)).mono ?_
   rintro e w1 ⟨rfl, b1⟩
   go_wp2_with fail
   go_ret
   exact ⟨by first | rfl | (simp [hle]), bnext hS.b b1⟩
  ·have hd : decide ((V1 : Int) ≤ n) = false := decide_eq_false hle
   go_enter Tryz.func27, Tryz.ntmps27
   go_wp2_with fail
   refine (HM.out _ (hR.below hS.b) (hL.below hS.b)).mono ?_
   rintro e w1 ⟨rfl, b1⟩
   go_wp2_with fail
   go_ret
   exact ⟨by first | rfl | (simp [hle]), bnext hS.b b1⟩
theorem SameCrossings_same (a a2 : Option Addr) (cap cap2 n : Nat) (l : List CrM) (w : World) (hS : Reps cX 3 w a cap l) (hM : Reps cX 3 w a2 cap2 l) (hn : l.length = n) (hl : n ≤ 1048576) :
  Calls Tryz.prog 23 #[.slice a n cap, .slice a2 n cap2] w fun r w' => r = .returned (.bool true) ∧ Below w.heap.size w w' := by
 subst hn
 have hcap := hS.le
 have hm := hS.max
 have hcap2 := hM.le
 have hm2 := hM.max
 go_enter Tryz.func23, Tryz.ntmps23
 go_wp2_with fail
 go_loopw [5] (fun i wr => ∃ k : Nat, k ≤ l.length ∧ i = .int .i64 k ∧ Below w.heap.size w wr) (fun i _ => l.length - (intOf i).toNat)
 case atStart => exact ⟨0, by omega, rfl, Below.refl _ _⟩
 case round =>
  obtain ⟨k, hk, rfl, hbr⟩ := hrel
  by_cases hlt : k < l.length
  ·have hS5 := hS.below hbr
   have hS6 := hM.below hbr
   go_wp2_with fail
   refine wp_region_quiet_lit kR kR ?_
   repeat (first | (((with_reducible refine wpQD_idxA (⟨0, 0, 0, 0⟩ : CrM) E_rxs A_rxs cX1 wU wU (hS5) oD oD (fun _ => wU) (fun _ => ?_)); (try simp only [Act.put, pA, pB, pC]); (try simp only [cPair, cPass]))) | (((with_reducible refine wpQD_idxA (⟨0, 0, 0, 0⟩ : CrM) E_rxs A_rxs cX1 wU wU (hS6) oD oD (fun _ => wU) (fun _ => ?_)); (try simp only [Act.put, pA, pB, pC]); (try simp only [cPair, cPass]))) | quiet_step (fail))
   refine wpQuiet_nil ?_
   intro w5 hb5
   replace hb5 := below_drewN hb5
   have b5 := bnext hbr hb5
   go_wp2_with fail
   exact ⟨⟨k + 1, by omega, by go_num, b5⟩, by simp [intOf]; omega⟩
  ·have : k = l.length := by omega
   subst this
   go_wp2_with fail
   go_ret
   exact ⟨rfl, hbr⟩
theorem lcrossings_any (a : Option Addr) (cap : Nat) (l : List CrM) (w : World) (hS : Reps cX 3 w a cap l) (hl : l.length ≤ 1048576) :
  Calls Tryz.prog 24 #[.slice a l.length cap] w fun r w' => ∃ v, r = .returned v ∧ Own cX 3 w.heap.size 107 w' v l ∧ Below w.heap.size w w' := by
 have hcap := hS.le
 have hm := hS.max
 have hSL := (SL.nil w).nilS (α := CrM) (c := cX) (sz := 3) (e := 107) cXS
 go_enter Tryz.func24, Tryz.ntmps24
 go_wp2_with fail
 go_loopw [3, 4] (fun v i wr => ∃ k : Nat, k ≤ l.length ∧ i = .int .i64 k ∧ SL w.heap.size w wr [pOwn cX 3 107 v (l.take k)]) (fun _ i _ => l.length - (intOf i).toNat)
 case atStart => exact ⟨0, by omega, rfl, hSL⟩
 case round =>
  clear hSL
  obtain ⟨k, hk, rfl, hSr⟩ := hrel
  have hLr := hS.below hSr.b
  have hle : (l.take k).length ≤ 1048576 := by simp; omega
  by_cases hlt : k < l.length
  ·have hs := take_step (⟨0, 0, 0, 0⟩ : CrM) l k hlt
   obtain ⟨x, hx⟩ : ∃ x, x = atD (⟨0, 0, 0, 0⟩ : CrM) l k := ⟨_, rfl⟩
   rw [← hx] at hs
   have HS := hid hs; have HX := hid hx
   clear hs hx
   go_wp2_with (first | ((with_reducible refine wpList_idxS _ (⟨0, 0, 0, 0⟩ : CrM) E_xs A_xs cX1 wU wU (hLr) oD oD (fun _ => wU) (fun _ => ?_)); rw [← HX.out]) | ((with_reducible refine wpList_pushL (y := x) 0 E_rxs wU wU (hSr) wU cXO ⟨rfl, rfl⟩ (by first | with_unfolding_all rfl | simp) wU (by first | omega | (simp; omega)) (by first | omega | (simp; omega)) ?_); intro v3 w3 hS3))
   exact ⟨⟨k + 1, by omega, by go_num, by rw [HS.out]; exact hS3⟩, by simp [intOf]; omega⟩
  ·have : k = l.length := by omega
   subst this
   rw [List.take_length] at hSr
   go_wp2_with fail
   go_ret
   exact ⟨_, rfl, hSr.own 0 rfl, hSr.b⟩
end Go.Proofs.YtoebgfgihfjnnaaGreatDoor

namespace Go.Proofs.YtoebgfgihfjnnaaGreatDoor
set_option maxRecDepth 100000
/-- the pairs of a gear, each as the carrier that goes to the right, the other one. -/
def prsG (m : MacV) (l : List Int) (g : Int) : List (Int × Int) := [(atR m l (4 * g + 1), atR m l (4 * g + 2)), (atR m l (4 * g), atR m l (4 * g + 2)), (atR m l (4 * g + 1), atR m l (4 * g + 3))]
def triX (g : Int) (x : Int × Int) : List (Int × Int × Int) := if 0 ≤ x.1 ∧ 0 ≤ x.2 then [(x.1, x.2, g)] else []
def triG (m : MacV) (l : List Int) (g : Int) : List (Int × Int × Int) := (prsG m l g).flatMap (triX g)
def triM (m : MacV) (l : List Int) : List (Int × Int × Int) := (gearsL m).flatMap (triG m l)
def mkT (m : MacV) (x : Int × Int × Int) : CrM := mkX m x.2.2 x.1 x.2.1
theorem tri_both (m : MacV) (g : Int) (x y : Option Int) (hx : ∀ i, x = some i → 0 ≤ i) (hy : ∀ i, y = some i → 0 ≤ i) : (bothX (mkX m g) x y).toList = (triX g (x.getD (-1), y.getD (-1))).map (mkT m) := by
 cases x with
 | none => simp [bothX, triX]
 | some a =>
  have ha := hx a rfl
  cases y with
  | none => simp [bothX, triX]
  | some b =>
   have hb := hy b rfl
   simp [bothX, triX, ha, hb, mkT]
theorem triG_cross (m : MacV) (l : List Int) (g : Int) : crossG m l g = (triG m l g).map (mkT m) := by
 have hp : ∀ k i, opG m l g k = some i → 0 ≤ i := fun k i h => idxO_nonneg h
 have a0 := atR_opG m l g 0 (by decide)
 have a1 := atR_opG m l g 1 (by decide)
 have a2 := atR_opG m l g 2 (by decide)
 have a3 := atR_opG m l g 3 (by decide)
 have e0 : 4 * g + ((0 : Nat) : Int) = 4 * g := by omega
 rw [e0] at a0
 rw [crossG_eq, crossA_eq, crossA_eq, crossA_eq, tri_both m g _ _ (hp 1) (hp 2), tri_both m g _ _ (hp 0) (hp 2), tri_both m g _ _ (hp 1) (hp 3)]
 unfold triG prsG
 rw [List.flatMap_cons, List.flatMap_cons, List.flatMap_cons, List.flatMap_nil, List.append_nil, List.map_append, List.map_append]
 have b1 : atR m l (4 * g + 1) = (opG m l g 1).getD (-1) := a1
 have b2 : atR m l (4 * g + 2) = (opG m l g 2).getD (-1) := a2
 have b3 : atR m l (4 * g + 3) = (opG m l g 3).getD (-1) := a3
 rw [a0, b1, b2, b3]
theorem triM_cross (m : MacV) (l : List Int) : crossM m l = (triM m l).map (mkT m) := by
 unfold crossM triM
 rw [List.map_flatMap]
 congr 1
 funext g
 exact triG_cross m l g
/-- the triples of the first gears. -/
def triK (m : MacV) (l : List Int) (k : Nat) : List (Int × Int × Int) := (List.range k).flatMap fun (g : Nat) => triG m l g
theorem triK_step (m : MacV) (l : List Int) (k : Nat) : triK m l (k + 1) = triK m l k ++ triG m l k := by
 unfold triK
 rw [List.range_succ, List.flatMap_append]
 simp
theorem triK_all (m : MacV) (l : List Int) : triK m l m.gears.toNat = triM m l := by
 unfold triK triM gearsL
 rw [List.flatMap_map]
theorem triG_len (m : MacV) (l : List Int) (g : Int) : (triG m l g).length ≤ 3 := by
 unfold triG prsG
 simp only [List.flatMap_cons, List.flatMap_nil, List.append_nil, List.length_append]
 have h : ∀ x, (triX g x).length ≤ 1 := fun x => by unfold triX; split <;> simp
 have h1 := h (atR m l (4 * g + 1), atR m l (4 * g + 2))
 have h2 := h (atR m l (4 * g), atR m l (4 * g + 2))
 have h3 := h (atR m l (4 * g + 1), atR m l (4 * g + 3))
 omega
theorem triK_len (m : MacV) (l : List Int) : ∀ k : Nat, (triK m l k).length ≤ 3 * k
 | 0 => by simp [triK]
 | k + 1 => by
   rw [triK_step, List.length_append]
   have h1 := triK_len m l k
   have h2 := triG_len m l k
   omega
/-- one pair of a gear. -/
theorem triX_step (g : Int) {X : List (Int × Int)} {j : Nat} (h : j < X.length) : (X.take (j + 1)).flatMap (triX g) = (X.take j).flatMap (triX g) ++ triX g (atD (0, 0) X j) := by
 have e : atD (0, 0) X j = X[j] := by simp [atD, h]
 rw [List.take_succ_eq_append_getElem h, List.flatMap_append, e]
 simp
end Go.Proofs.YtoebgfgihfjnnaaGreatDoor

namespace Go.Proofs.YtoebgfgihfjnnaaGreatDoor
open Go.RowKit
set_option maxRecDepth 100000
section
variable {P : Program} {ops : Array Oper} {rest : List Oper} {a : Act} {α : Type} {c : α → Value} {sz bytes n : Nat} {t e : TypeId} {z : Value} {ad : Option Addr} {cap : Nat} {l : List α} {k : Int}
 {d1 d2 : Tmp} {ty1 ty2 : TypeId} {p1 p2 : String} {s x : Operand} {af1 af2 : Array Edge} {g1 g2 : Option (Nat × Bool)} {w : World}
/-- the load of an element that is known, guarded. -/
theorem wpList_idxSG {Q : Exit → Act → World → Prop} (d : α) (V : Value) (E : ETy P t e z sz bytes) (hF : Aggr P e) (hc : ∀ x, c x = .agg (c x).cells)
   (hs : a.eval s = .slice ad n cap) (hx : a.eval x = .int .i64 k) (hR : Reps c sz w ad cap l) (hn : l.length = n) (h0 : 0 ≤ k) (hlt : k < n) (hV : c (atD d l k) = V) (hd : ∀ p, (a.put (some d1) p).eval (.tmp d1) = p)
   (hw1 : Region.wanted ⟨some d1, .indexAddr t s x, ty1, p1, af1, g1⟩ (yielded ops a.tmps) = true) (hw2 : ∀ p, Region.wanted ⟨some d2, .load e (.tmp d1), ty2, p2, af2, g2⟩ (yielded ops (a.put (some d1) p).tmps) = true)
   (hK : ∀ p, wpList P ops Q rest ((a.put (some d1) p).put (some d2) V) w) :
   wpList P ops Q (⟨some d1, .indexAddr t s x, ty1, p1, af1, g1⟩ :: ⟨some d2, .load e (.tmp d1), ty2, p2, af2, g2⟩ :: rest) a w := by
 subst hn hV
 obtain ⟨p, hr1, hr2⟩ := run_idx_agg d E hF hR hc h0 hlt
 refine wpList_step fun K hK' => ?_
 rw [if_pos hw1]
 unfold Oper.wp
 simp only [execOp, hs, hx]
 simp [hr1, Result.andThen]
 refine hK' _ _ (wpList_step fun K2 hK2 => ?_)
 rw [if_pos (hw2 _)]
 unfold Oper.wp
 simp only [execOp, hd]
 simp [hr2, Result.andThen]
 exact hK2 _ _ (hK _)
end
end Go.Proofs.YtoebgfgihfjnnaaGreatDoor

namespace Go.Proofs.YtoebgfgihfjnnaaGreatDoor
open Go.RowKit
set_option maxHeartbeats 8000000
set_option maxRecDepth 100000
abbrev cT (x : Int × Int × Int) : Value := .agg #[.int .i64 x.1, .int .i64 x.2.1, .int .i64 x.2.2]
theorem cTS (x : Int × Int × Int) : (cT x).cells.size = 3 := rfl
theorem cTO (x : Int × Int × Int) : ∀ u ∈ (cT x).cells.toList, u.oneCell' = true := by
 intro u hu; simp [cT, Value.cells] at hu; rcases hu with rfl | rfl | rfl <;> rfl
theorem E_ts : ETy Tryz.prog 108 111 (.agg #[.int .i64 0, .int .i64 0, .int .i64 0]) 3 24 := ⟨Tryz.underlying108, by kernel_rfl, rfl, by decide⟩
theorem E_prs : ETy Tryz.prog 148 84 (.agg #[.int .i64 0, .int .i64 0]) 2 16 := ⟨Tryz.underlying148, by kernel_rfl, rfl, by decide⟩
theorem rcrossings_any (m : MacV) (ad : Option Addr) (cap : Nat) (al : Option Addr) (cl : Nat) (l : List Int) (w : World) (hL : Ints w al cl l) (hg0 : 1 ≤ m.gears) (hg : m.gears ≤ 16) (hl : ∀ x ∈ l, 0 ≤ x ∧ x < 4 * m.gears) (hn : l.length ≤ 64) :
  Calls Tryz.prog 77 #[mV m ad cap, .slice al l.length cl] w fun r w' => ∃ v, r = .returned v ∧ Own cT 3 w.heap.size 111 w' v (triM m l) ∧ Below w.heap.size w w' := by
 have hcap := hL.le
 have hmx := hL.max
 have hS := ((SL.nil w).box (.cells (mC m ad cap) 25)).nilS (α := Int × Int × Int) (c := cT) (sz := 3) (e := 111) cTS
 obtain ⟨n, hnn⟩ : ∃ n : Nat, m.gears = n := ⟨m.gears.toNat, by omega⟩
 have hn16 : n ≤ 16 := by omega
 have HAT : Hid (∀ (r : Int) w, Ints w al cl l → _) := hid fun r w h => rAt_any m ad cap al cl l r w h hg hl hn
 have HST : Hid (∀ k : Nat, _) := hid fun k => triK_step m l k
 have HLE : Hid (∀ k : Nat, (triK m l k).length ≤ 3 * k) := hid fun k => triK_len m l k
 have HXS : Hid (∀ (g : Int) (X : List (Int × Int)) (j : Nat), j < X.length → _) := hid fun g X j h => triX_step g (X := X) (j := j) h
 have HAL : Hid (triK m l n = triM m l) := hid (by rw [← triK_all, hnn]; rfl)
 have HNN := hid hnn
 rw [← HAL.out]
 clear hl hnn hg hg0
 go_enter Tryz.func77, Tryz.ntmps77
 go_wp2_with fail
 go_loopw [5, 6, 7, 8, 9, 10, 12] (fun v i _ _ _ _ _ wr => ∃ k : Nat, k ≤ n ∧ i = .int .i64 k ∧ SL w.heap.size w wr [pOwn cT 3 111 v (triK m l k), pBlk w.heap.size (.cells (mC m ad cap) 25)]) (fun _ i _ _ _ _ _ _ => n - (intOf i).toNat)
 case atStart => exact ⟨0, by omega, rfl, hS⟩
 case round =>
  clear hS
  obtain ⟨k, hk, rfl, hSr⟩ := hrel
  have q1 := (hSr.blk 1 rfl).1
  have hG := HNN.out
  by_cases hlt : k < n
  ·have hlt2 : (k : Int) < m.gears := by omega
   have hLr := hL.below hSr.b
   have hs := HST.out k
   have hle := HLE.out k
   have hw0 : IntKind.i64.wrap (4 * (k : Int)) = 4 * (k : Int) := IntWalk.i64_in _ (by omega)
   have hw1 : IntKind.i64.wrap (4 * (k : Int) + 1) = 4 * (k : Int) + 1 := IntWalk.i64_in _ (by omega)
   have hw2 : IntKind.i64.wrap (4 * (k : Int) + 2) = 4 * (k : Int) + 2 := IntWalk.i64_in _ (by omega)
   have hw3 : IntKind.i64.wrap (4 * (k : Int) + 3) = 4 * (k : Int) + 3 := IntWalk.i64_in _ (by omega)
   have C0 := fun w h => HAT.out (4 * (k : Int)) w h
   have C1 := fun w h => HAT.out (4 * (k : Int) + 1) w h
   have C2 := fun w h => HAT.out (4 * (k : Int) + 2) w h
   have C3 := fun w h => HAT.out (4 * (k : Int) + 3) w h
   have hps : triG m l k = (prsG m l k).flatMap (triX k) := rfl
   unfold prsG at hps
   obtain ⟨A, hA⟩ : ∃ A, A = atR m l (4 * (k : Int)) := ⟨_, rfl⟩
   obtain ⟨U, hU⟩ : ∃ U, U = atR m l (4 * (k : Int) + 1) := ⟨_, rfl⟩
   obtain ⟨D, hD⟩ : ∃ D, D = atR m l (4 * (k : Int) + 2) := ⟨_, rfl⟩
   obtain ⟨B, hB⟩ : ∃ B, B = atR m l (4 * (k : Int) + 3) := ⟨_, rfl⟩
   rw [← hA] at C0 hps
   rw [← hU] at C1 hps
   rw [← hD] at C2 hps
   rw [← hB] at C3 hps
   have H0 := hid C0; have H1 := hid C1; have H2 := hid C2; have H3 := hid C3
   rw [hps] at hs
   have HS := hid hs
   clear C0 C1 C2 C3 hps hA hU hD hB hs hG
   go_wp2_with (with_reducible refine wpList_ldB F_int wU wU q1 wU ?_)
   refine wp_region_q kR kR ?_
   repeat (first | ((with_reducible refine wpB_loadS (n := 4) (us := mC m ad cap) A_rmach kR wU wU (by assumption) wU wU ?_); (try simp only [Act.put, pA, pB, pC])) | ((with_reducible refine wpB_call (.int .i64 A) wU (fun w' => ?_) (fun w' hw' => H0.out w' (hLr.below hw')) ?_); (focus (go_simp; done)); (try simp only [Act.put, pA, pB, pC])) | ((with_reducible refine wpB_call (.int .i64 U) wU (fun w' => ?_) (fun w' hw' => H1.out w' (hLr.below hw')) ?_); (focus (go_simp; done)); (try simp only [Act.put, pA, pB, pC])) | ((with_reducible refine wpB_call (.int .i64 D) wU (fun w' => ?_) (fun w' hw' => H2.out w' (hLr.below hw')) ?_); (focus (go_simp; done)); (try simp only [Act.put, pA, pB, pC])) | ((with_reducible refine wpB_call (.int .i64 B) wU (fun w' => ?_) (fun w' hw' => H3.out w' (hLr.below hw')) ?_); (focus (go_simp; done)); (try simp only [Act.put, pA, pB, pC])) |  ((with_reducible refine wpB_load (by first | exact F_int | exact F_u64s) wU wU (by assumption) wU ?_); (try simp only [Act.put, pA, pB, pC])) | ((refine wpQ_oneG ?_ wU (fun w' => ?_) ?_); rotate_left; (go_simp; rfl); (try simp only [Act.put, pA, pB, pC])))
   refine wpQuiet_nil ?_
   intro w4 hb4
   have hS4 := hSr.mono hb4
   clear q1 hLr hSr hb4
   go_wp2_with fail
   have hX5 : Reps cPair 2 (w4.alloc (.cells #[.int .i64 U, .int .i64 D, .int .i64 A, .int .i64 D, .int .i64 U, .int .i64 B] 84)) (some ⟨w4.heap.size, 0, none⟩) 3 [(U, D), (A, D), (U, B)] := reps_of_own (own_newN cPairS [(U, D), (A, D), (U, B)] 3 rfl (by decide) _ rfl (Nat.le_refl _) rfl) rfl
   have hS5 := hS4.newRd (bal (Below.refl _ _) _) hX5 (by decide) (fun b e => by cases e; exact Nat.le_refl _)
   obtain ⟨X, hX⟩ : ∃ X, X = [(U, D), (A, D), (U, B)] := ⟨_, rfl⟩
   have hXl : X.length = 3 := by rw [hX]; rfl
   rw [← hX] at hS5 HS
   clear hX5
   have HXL := hid hXl
   obtain ⟨ws, hws⟩ : ∃ z, z = w4.heap.size := ⟨_, rfl⟩
   rw [← hws] at hS5 ⊢
   clear hX hXl hS4 hws
   go_loopw [53, 5, 12] (fun i v _ wr => ∃ j : Nat, j ≤ 3 ∧ i = .int .i64 j ∧ SL w.heap.size w wr [pRd cPair 2 (some ⟨ws, 0, none⟩) 3 X, pOwn cT 3 111 v (triK m l k ++ (X.take j).flatMap (triX k)), pBlk w.heap.size (.cells (mC m ad cap) 25)]) (fun i _ _ _ => 3 - (intOf i).toNat)
   case atStart => exact ⟨0, by omega, rfl, by simpa using hS5⟩
   case round =>
    clear hS5
    obtain ⟨j, hj, rfl, hSq⟩ := hrel
    have hXr := hSq.rdR 0 rfl
    by_cases hj3 : j < 3
    ·have hst := HXS.out k X j (by rw [HXL.out]; exact hj3)
     obtain ⟨⟨x0, x1⟩, hx⟩ : ∃ x, x = atD (0, 0) X j := ⟨_, rfl⟩
     rw [← hx] at hst
     have hV : cPair (atD (0, 0) X j) = .agg #[.int .i64 x0, .int .i64 x1] := by rw [← hx]; rfl
     have hlen : ((X.take j).flatMap (triX k)).length ≤ 3 := by
      have : ∀ Y : List (Int × Int), (Y.flatMap (triX k)).length ≤ Y.length := fun Y => by
       induction Y with
       | nil => simp
       | cons y r ih =>
        rw [List.flatMap_cons, List.length_append, List.length_cons]
        have : (triX k y).length ≤ 1 := by unfold triX; split <;> simp
        omega
      have := this (X.take j)
      rw [List.length_take] at this
      omega
     have hlen2 : (triK m l k ++ (X.take j).flatMap (triX k)).length ≤ 64 := by rw [List.length_append]; omega
     have hS6 := hSq.al (.cells #[.int .i64 x0, .int .i64 x1] 84)
     clear hx hlen
     by_cases h0 : 0 ≤ x0
     ·have d0 : decide (0 ≤ x0) = true := decide_eq_true h0
      by_cases h1 : 0 ≤ x1
      ·have d1 : decide (0 ≤ x1) = true := decide_eq_true h1
       have hst2 : triK m l k ++ (X.take (j + 1)).flatMap (triX k) = (triK m l k ++ (X.take j).flatMap (triX k)) ++ [(x0, x1, (k : Int))] := by rw [hst, List.append_assoc]; unfold triX; rw [if_pos ⟨h0, h1⟩]
       have HT := hid hst2
       clear hst hst2
       go_wp2_with (first | (with_reducible refine wpList_idxSG (0, 0) (.agg #[.int .i64 x0, .int .i64 x1]) E_prs A_two cPair1 wU wU hXr HXL.out (by omega) (by omega) hV (fun _ => wU) wU (fun _ => wU) (fun _ => ?_)) | ((with_reducible refine wpList_pushL (y := (x0, x1, (k : Int))) 1 E_ts wU wU (hS6) wU cTO ⟨rfl, rfl⟩ (by first | with_unfolding_all rfl | simp) wU (by first | omega | (simp; omega)) (by first | omega | (simp; omega)) ?_); intro v7 w7 hS7))
       exact ⟨⟨j + 1, by omega, by go_num, by rw [HT.out]; exact hS7⟩, by simp [intOf]; omega⟩
      ·have d1 : decide (0 ≤ x1) = false := decide_eq_false h1
       have hst2 : triK m l k ++ (X.take (j + 1)).flatMap (triX k) = triK m l k ++ (X.take j).flatMap (triX k) := by rw [hst]; unfold triX; rw [if_neg (fun h => h1 h.2), List.append_nil]
       have HT := hid hst2
       clear hst hst2
       go_wp2_with (with_reducible refine wpList_idxSG (0, 0) (.agg #[.int .i64 x0, .int .i64 x1]) E_prs A_two cPair1 wU wU hXr HXL.out (by omega) (by omega) hV (fun _ => wU) wU (fun _ => wU) (fun _ => ?_))
       exact ⟨⟨j + 1, by omega, by go_num, by rw [HT.out]; exact hS6⟩, by simp [intOf]; omega⟩
     ·have d0 : decide (0 ≤ x0) = false := decide_eq_false h0
      have hst2 : triK m l k ++ (X.take (j + 1)).flatMap (triX k) = triK m l k ++ (X.take j).flatMap (triX k) := by rw [hst]; unfold triX; rw [if_neg (fun h => h0 h.1), List.append_nil]
      have HT := hid hst2
      clear hst hst2
      go_wp2_with (with_reducible refine wpList_idxSG (0, 0) (.agg #[.int .i64 x0, .int .i64 x1]) E_prs A_two cPair1 wU wU hXr HXL.out (by omega) (by omega) hV (fun _ => wU) wU (fun _ => wU) (fun _ => ?_))
      exact ⟨⟨j + 1, by omega, by go_num, by rw [HT.out]; exact hS6⟩, by simp [intOf]; omega⟩
    ·have hj2 : j = X.length := by rw [HXL.out]; omega
     have et : X.take j = X := by rw [hj2, List.take_length]
     rw [et, ← HS.out] at hSq
     clear et hj2
     go_wp2_with fail
     exact ⟨⟨k + 1, by omega, by go_num, hSq.tail⟩, by simp [intOf]; omega⟩
  ·have hkn : k = n := by omega
   subst hkn
   have hG2 : ¬ (k : Int) < m.gears := by omega
   clear hG
   go_wp2_with (with_reducible refine wpList_ldB F_int wU wU q1 wU ?_)
   go_ret
   exact ⟨_, rfl, hSr.own 0 rfl, hSr.b⟩
end Go.Proofs.YtoebgfgihfjnnaaGreatDoor
