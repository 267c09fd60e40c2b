/- Contract: PlaitStands returns true. Conditions: the slice can be read, its numbers and the move's fit an int. -/
import Derived.Test.YtogbclcnmogaeaaGreatDoorRl2
import Derived.Test.YtogbclcnmogaeaaGreatDoorRA
import Derived.Test.YtogbclcnmogaeaaGreatDoorAwA
set_option linter.all false
namespace Go.Proofs.YtogbclcnmogaeaaGreatDoor
open Go.RowKit
set_option maxHeartbeats 2000000
set_option maxRecDepth 100000

theorem A_rmove : Aggr Tryz.prog 24 := ⟨_, Tryz.underlying24, rfl⟩
theorem PlaitStands_any (f t : Int) (a : Option Addr) (cap : Nat) (l : List Int) (w : World) (hS : Ints w a cap l) (hI : ∀ x ∈ l, InI x) :
    Calls Tryz.prog 3 #[.slice a l.length cap, .agg #[.int .i64 f, .int .i64 t]] w fun r w' => r = .returned (.bool true) ∧ Below w.heap.size w w' := by
  have hcap := hS.le
  have hm := hS.max
  have hR := hS.alloc (.cells #[.int .i64 f, .int .i64 t] 24)
  have hb0 := bal (Below.refl w.heap.size w) (.cells #[.int .i64 f, .int .i64 t] 24)
  have hq := heap_alloc_new w (.cells #[.int .i64 f, .int .i64 t] 24)
  have hzW : w.heap.size < (w.alloc (.cells #[.int .i64 f, .int .i64 t] 24)).heap.size := by simp
  have hz := hS.le
  by_cases h66 : l.length ≤ 66
  · have hd : decide (l.length ≤ 66) = true := by simpa using h66
    have HD := hid hd; clear hd
    obtain ⟨bad, hbad⟩ : ∃ bad, bad = checkStand l := ⟨_, rfl⟩
    obtain ⟨n1, hn1⟩ : ∃ n1, n1 = (if checkStand l = 0 then legalN l f t else 0) := ⟨_, rfl⟩
    obtain ⟨e2, he2⟩ : ∃ e2, e2 = nextE l f t := ⟨_, rfl⟩
    obtain ⟨L2, hL2⟩ : ∃ L2, L2 = (if nextE l f t = 0 then nextL l f t else []) := ⟨_, rfl⟩
    have CL := fun (a : Option Addr) (cap : Nat) (w : World) (hS : Ints w a cap l) => Legal_any f t a cap l w hS hI
    have CN := fun (a : Option Addr) (cap : Nat) (w : World) (hS : Ints w a cap l) => Next_any f t a cap l w hS hI (by omega)
    have CC := fun (a : Option Addr) (cap : Nat) (w : World) (hS : Ints w a cap l) => CheckStand_any a cap l w hS hI
    have CR := fun (a : Option Addr) (cap : Nat) (w : World) (hS : Ints w a cap l) => rCheckStand_any a cap l w hS
    rw [← hn1, ← hbad] at CL
    rw [← hL2, ← he2] at CN
    rw [← hbad] at CC CR
    have HCL := hid CL; have HCN := hid CN; have HCC := hid CC; have HCR := hid CR
    have HBAD := hid hbad; have HN1 := hid hn1; have HE2 := hid he2; have HL2 := hid hL2
    clear CL CN CC CR hbad hn1 he2 hL2
    go_enter Tryz.func3, Tryz.ntmps3
    go_wp2_with (go_at_call 17; refine (shortStand_any _ _ _ _).mono ?_; rw [HD.out]; rintro e w' ⟨rfl, rfl⟩)
    obtain ⟨W, hW⟩ : ∃ W, W = w.alloc (.cells #[.int .i64 f, .int .i64 t] 24) := ⟨_, rfl⟩
    rw [← hW] at hR hb0 hq hzW
    simp only [← hW]
    clear hW
    refine wp_region_pure (C := Below W.heap.size W) [2] [_] 8 (by simp only [List.map_cons, List.map_nil, List.getElem?_toArray]; rfl) rfl (by kernel_rfl) (by kernel_rfl) (by kernel_rfl) (Below.refl _ _).drew ?_
    refine ⟨.agg #[.int .i64 f, .int .i64 t], yieldsC_loadS (n := 2) A_rmove (by kernel_rfl) hq rfl rfl (by with_unfolding_all rfl) (by with_unfolding_all rfl), ?_⟩
    go_frame
    unfold wpPure
    have hV : Below W.heap.size W W.drew := (Below.refl _ _).drew
    have hVd : ({ W with drawn := W.drawn + 1 } : World) = W.drew := rfl
    rw [hVd]
    obtain ⟨V, hVV⟩ : ∃ V, V = W.drew := ⟨_, rfl⟩
    rw [← hVV] at hV
    rw [← hVV]
    clear hVV hVd
    refine wpAnyC_on [0] (by kernel_rfl) (by simp) ?_
    simp only [List.forall_mem_cons, List.not_mem_nil, false_implies, implies_true, and_true]
    refine wpOp_value (v := .slice a l.length cap) (by rw [List.getElem?_toArray]; rfl) (by with_unfolding_all rfl) (by first | (simp [execOp, Act.eval, Result.andThen]; done) | (simp [execOp, Act.eval, Result.andThen]; rfl) | go_simp) ?_
    refine ⟨hV, ?_⟩
    go_frame
    refine wpAnyC_on [1] (by kernel_rfl) (by simp) ?_
    simp only [List.forall_mem_cons, List.not_mem_nil, false_implies, implies_true, and_true]
    refine wpOp_call (f := 20) (args := #[.slice a l.length cap]) (by rw [List.getElem?_toArray]; rfl) (by with_unfolding_all rfl) (by first | (go_simp; done) | (simp [execOp, Act.eval, Result.andThen]; done) | (simp [execOp, Act.eval, Result.andThen]; rfl)) ?_
    refine (numbers_any a cap l _ (hR.below hV) (by omega)).mono ?_
    rintro e V1 ⟨v1, rfl, hO1, hb1⟩
    obtain ⟨a1, cap1, rfl, hr1, hf1, _⟩ := hO1.reps
    refine ⟨_, rfl, bnext hV hb1, ?_⟩
    go_frame
    refine wpAnyC_on [3] (by kernel_rfl) (by simp) ?_
    simp only [List.forall_mem_cons, List.not_mem_nil, false_implies, implies_true, and_true]
    refine wpOp_call (f := 19) (args := #[.slice a1 l.length cap1, .agg #[.int .i64 f, .int .i64 t]]) (by rw [List.getElem?_toArray]; rfl) (by with_unfolding_all rfl) (by first | (go_simp; done) | (simp [execOp, Act.eval, Result.andThen]; done) | (simp [execOp, Act.eval, Result.andThen]; rfl)) ?_
    refine (HCL.out a1 cap1 V1 hr1).mono ?_
    rintro e V2 ⟨rfl, hb2⟩
    have hV2 := bnext hV (bnext hb1 hb2)
    refine ⟨_, rfl, hV2, ?_⟩
    go_frame
    refine wpAnyC_rest [4, 5, 6, 7, 8] [_, _, _, _, _] rfl (by simp only [List.map_cons, List.map_nil, List.getElem?_toArray]; rfl) (by kernel_rfl) (by kernel_rfl) (by kernel_rfl) (hV2) ?_
    repeat (refine ⟨_, .inl ⟨by with_unfolding_all rfl, fun w' _ => by with_unfolding_all exact rfl⟩, ?_⟩; go_frame)
    unfold wpPure
    refine of_wpList_nil (P := Tryz.prog) (ops := #[]) ?_
    go_wp2_with fail
    have hq2 := (hV2.block _ hzW).trans hq
    have hR2 := hR.below hV2
    have hb2' := bnext hb0 hV2
    have hz2 := hV2.size
    clear hV2 hV hb1 hb2 hO1 hr1 hf1 hR hb0 hq
    refine wp_region_pure (C := Below V2.heap.size V2) [2] [_] 8 (by simp only [List.map_cons, List.map_nil, List.getElem?_toArray]; rfl) rfl (by kernel_rfl) (by kernel_rfl) (by kernel_rfl) (Below.refl _ _).drew ?_
    refine ⟨.agg #[.int .i64 f, .int .i64 t], yieldsC_loadS (n := 2) A_rmove (by kernel_rfl) hq2 rfl rfl (by with_unfolding_all rfl) (by with_unfolding_all rfl), ?_⟩
    go_frame
    unfold wpPure
    have hV : Below V2.heap.size V2 V2.drew := (Below.refl _ _).drew
    have hVd : ({ V2 with drawn := V2.drawn + 1 } : World) = V2.drew := rfl
    rw [hVd]
    obtain ⟨U, hVV⟩ : ∃ U, U = V2.drew := ⟨_, rfl⟩
    rw [← hVV] at hV
    rw [← hVV]
    clear hVV hVd
    refine wpAnyC_on [0] (by kernel_rfl) (by simp) ?_
    simp only [List.forall_mem_cons, List.not_mem_nil, false_implies, implies_true, and_true]
    refine wpOp_value (v := .slice a l.length cap) (by rw [List.getElem?_toArray]; rfl) (by with_unfolding_all rfl) (by first | (simp [execOp, Act.eval, Result.andThen]; done) | (simp [execOp, Act.eval, Result.andThen]; rfl) | go_simp) ?_
    refine ⟨hV, ?_⟩
    go_frame
    refine wpAnyC_on [1] (by kernel_rfl) (by simp) ?_
    simp only [List.forall_mem_cons, List.not_mem_nil, false_implies, implies_true, and_true]
    refine wpOp_call (f := 20) (args := #[.slice a l.length cap]) (by rw [List.getElem?_toArray]; rfl) (by with_unfolding_all rfl) (by first | (go_simp; done) | (simp [execOp, Act.eval, Result.andThen]; done) | (simp [execOp, Act.eval, Result.andThen]; rfl)) ?_
    refine (numbers_any a cap l _ (hR2.below hV) (by omega)).mono ?_
    rintro e U1 ⟨v1, rfl, hO1, hb1⟩
    obtain ⟨a2, cap2, rfl, hr1, hf1, _⟩ := hO1.reps
    refine ⟨_, rfl, bnext hV hb1, ?_⟩
    go_frame
    refine wpAnyC_on [3] (by kernel_rfl) (by simp) ?_
    simp only [List.forall_mem_cons, List.not_mem_nil, false_implies, implies_true, and_true]
    refine wpOp_call (f := 21) (args := #[.slice a2 l.length cap2, .agg #[.int .i64 f, .int .i64 t]]) (by rw [List.getElem?_toArray]; rfl) (by with_unfolding_all rfl) (by first | (go_simp; done) | (simp [execOp, Act.eval, Result.andThen]; done) | (simp [execOp, Act.eval, Result.andThen]; rfl)) ?_
    refine (HCN.out a2 cap2 U1 hr1).mono ?_
    rintro e U2 ⟨v, rfl, hO2, hb2⟩
    have hU2 := bnext hV (bnext hb1 hb2)
    obtain ⟨a3, cap3, rfl, hr3, hf3, _⟩ := hO2.reps
    refine ⟨_, rfl, hU2, ?_⟩
    go_frame
    refine wpAnyC_rest [4, 5, 6, 7, 8] [_, _, _, _, _] rfl (by simp only [List.map_cons, List.map_nil, List.getElem?_toArray]; rfl) (by kernel_rfl) (by kernel_rfl) (by kernel_rfl) (hU2) ?_
    repeat (refine ⟨_, .inl ⟨by with_unfolding_all rfl, fun w' _ => by with_unfolding_all exact rfl⟩, ?_⟩; go_frame)
    unfold wpPure
    refine of_wpList_nil (P := Tryz.prog) (ops := #[]) ?_
    have hq3 := (hU2.block _ (by omega)).trans hq2
    have hR3 := hR2.below hU2
    have hb3 := bnext hb2' hU2
    have hz3 := hU2.size
    clear hq2 hR2 hb2' hU2 hV hb1 hb2 hO1 hr1 hf1
    go_wp2_with fail
    refine (HCR.out a cap U2 hR3).mono ?_
    rintro e X1 ⟨rfl, hx1⟩
    go_wp2_with fail
    refine (numbers_any a cap l X1 (hR3.below hx1) (by omega)).mono ?_
    rintro e X2 ⟨v1, rfl, hO4, hx2⟩
    obtain ⟨a4, cap4, rfl, hr4, hf4, _⟩ := hO4.reps
    go_wp2_with fail
    refine (HCC.out a4 cap4 X2 hr4).mono ?_
    rintro e X3 ⟨rfl, hx3⟩
    have hX := bnext hx1 (bnext hx2 hx3)
    have hq4 := (hX.block _ (by omega)).trans hq3
    have hR4 := hR3.below hX
    have h3X := hr3.below hX
    have hb4 := bnext hb3 hX
    have hz4 := hX.size
    have hzX : w.heap.size < X3.heap.size := by omega
    clear hX hx1 hx2 hx3 hr4 hf4 hO4 hr3 hf3 hO2 hR3 hb3 hq3
    by_cases h0 : bad = 0
    · subst h0
      obtain ⟨rule, hrule⟩ : ∃ rule, rule = legalN l f t := ⟨_, rfl⟩
      have e1 : n1 = rule := by rw [HN1.out, ← HBAD.out, if_pos rfl, hrule]
      subst e1
      have hr3 : n1 = 0 ∨ n1 = 1 ∨ n1 = 2 ∨ n1 = 3 := by
        rw [hrule]; unfold legalN; repeat' split
        all_goals simp
      have RL := fun (a : Option Addr) (cap : Nat) (w : World) (hS : Ints w a cap l) => rLegal_any f t a cap l w hS
      rw [← hrule] at RL
      have HRL := hid RL; clear RL
      by_cases h1 : n1 = 0
      · have e3 : e2 = 0 := by rw [HE2.out, nextE, ← HBAD.out, if_pos rfl, ← hrule, if_pos h1]
        have e4 : L2 = nextL l f t := by rw [HL2.out, ← HE2.out, if_pos e3]
        have hin : inB l f = true ∧ inB l t = true := by
          rw [h1] at hrule
          unfold legalN at hrule
          cases hf : inB l f <;> cases ht : inB l t <;> simp [hf, ht] at hrule ⊢
        have hff : 0 ≤ f ∧ f < l.length := by simpa [inB] using hin.1
        have htt : 0 ≤ t ∧ t < l.length := by simpa [inB] using hin.2
        have hLl : L2.length = l.length := by rw [e4]; simp [nextL]
        subst h1 e3
        have RN := fun (a : Option Addr) (cap : Nat) (w : World) (hS : Ints w a cap l) => rNext_any f t a cap l w hS (by omega) hff.1 hff.2 htt.1 htt.2
        rw [← e4] at RN
        have HRN := hid RN
        have HLL := hid hLl
        clear RN e4 hin hff htt hrule hLl
        go_wp2_with (with_reducible refine wpList_ldS (n := 2) (us := #[.int .i64 f, .int .i64 t]) A_rmove (by kernel_rfl) (by with_unfolding_all rfl) (by with_unfolding_all rfl) (by assumption) (by with_unfolding_all rfl) (by with_unfolding_all rfl) ?_)
        refine (HRL.out a cap X3 hR4).mono ?_
        rintro e Y1 ⟨rfl, hy1⟩
        have hq5 := (hy1.block _ hzX).trans hq4
        have hzY := hy1.size
        go_wp2_with (with_reducible refine wpList_ldS (n := 2) (us := #[.int .i64 f, .int .i64 t]) A_rmove (by kernel_rfl) (by with_unfolding_all rfl) (by with_unfolding_all rfl) (by assumption) (by with_unfolding_all rfl) (by with_unfolding_all rfl) ?_)
        refine (HRN.out a cap Y1 (hR4.below hy1)).mono ?_
        rintro e Y2 ⟨v, rfl, hOY, hy2⟩
        obtain ⟨a5, cap5, rfl, hr5, hf5, _⟩ := hOY.reps
        go_wp2_with fail
        refine (SameInts_any a3 a5 cap3 cap5 L2 L2 Y2 (h3X.below (bnext hy1 hy2)) hr5 (by rw [HLL.out]; omega)).mono ?_
        rw [decide_eq_true rfl]
        rintro e Y3 ⟨rfl, hy3⟩
        go_wp2_with fail
        refine (awake_any Y3).mono ?_
        rintro e Y4 ⟨rfl, hy4⟩
        go_wp2_with fail
        go_ret
        exact ⟨rfl, bnext hb4 (bnext hy1 (bnext hy2 (bnext hy3 hy4)))⟩
      · have e3 : e2 = 18 := by rw [HE2.out, nextE, ← HBAD.out, if_pos rfl, ← hrule, if_neg h1]
        have e4 : L2 = [] := by rw [HL2.out, ← HE2.out, if_neg (by omega)]
        have hpos : 0 < n1 := by omega
        subst e3 e4
        clear hrule
        go_wp2_with (with_reducible refine wpList_ldS (n := 2) (us := #[.int .i64 f, .int .i64 t]) A_rmove (by kernel_rfl) (by with_unfolding_all rfl) (by with_unfolding_all rfl) (by assumption) (by with_unfolding_all rfl) (by with_unfolding_all rfl) ?_)
        refine (HRL.out a cap X3 hR4).mono ?_
        rintro e Y1 ⟨rfl, hy1⟩
        go_wp2_with fail
        refine (awake_any Y1).mono ?_
        rintro e Y4 ⟨rfl, hy4⟩
        go_wp2_with fail
        go_ret
        exact ⟨rfl, bnext hb4 (bnext hy1 hy4)⟩
    · have e1 : n1 = 0 := by rw [HN1.out, ← HBAD.out, if_neg h0]
      have e3 : e2 = bad := by rw [HE2.out, nextE, ← HBAD.out, if_neg h0]
      have e4 : L2 = [] := by rw [HL2.out, ← HE2.out, if_neg (by omega)]
      subst e1 e3 e4
      go_wp2_with fail
      refine (awake_any X3).mono ?_
      rintro e Y4 ⟨rfl, hy4⟩
      go_wp2_with fail
      go_ret
      exact ⟨rfl, bnext hb4 hy4⟩
  · have hd : decide (l.length ≤ 66) = false := by simpa using h66
    have HD := hid hd; clear hd
    go_enter Tryz.func3, Tryz.ntmps3
    go_wp2_with (go_at_call 17; refine (shortStand_any _ _ _ _).mono ?_; rw [HD.out]; rintro e w' ⟨rfl, rfl⟩)
    refine (awake_any _).mono ?_
    rintro e w' ⟨rfl, hb⟩
    go_wp2_with fail
    go_ret
    exact ⟨rfl, bnext hb0 hb⟩
end Go.Proofs.YtogbclcnmogaeaaGreatDoor
