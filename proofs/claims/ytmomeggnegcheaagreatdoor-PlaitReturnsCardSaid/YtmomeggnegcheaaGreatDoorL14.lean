/- Contract: PlaitReturns returns true. Conditions: the slices can be read, the numbers fit an int. -/
import Derived.Test.YtmomeggnegcheaaGreatDoorRtM
import Derived.Test.YtmomeggnegcheaaGreatDoorAwA
import Derived.Test.YtmomeggnegcheaaGreatDoorRoC
import Derived.Test.YtmomeggnegcheaaGreatDoorRB
set_option linter.all false
namespace Go.Proofs.YtmomeggnegcheaaGreatDoor
open Go.RowKit Go.Maps
set_option maxHeartbeats 64000000
set_option maxRecDepth 100000

theorem PlaitReturns_any (a a2 : Option Addr) (cap cap2 : Nat) (l : List Int) (ms : List (Int × Int)) (X : Int) (w : World) (hS : Ints w a cap l) (hM : Pairs w a2 cap2 ms) (hI : ∀ x ∈ l, InI x) (hX0 : 0 ≤ X) (hX1 : X ≤ 255) :
    Calls Tryz.prog 5 #[.slice a l.length cap, .slice a2 ms.length cap2, .int .u8 X] w fun r w' => r = .returned (.bool true) ∧ Below w.heap.size w w' := by
  have hcap := hS.le
  have hm := hS.max
  have hcap2 := hM.le
  have hm2 := hM.max
  by_cases h16 : 16 < l.length
  · go_enter Tryz.func5, Tryz.ntmps5
    go_wp2_with fail
    refine (awake_any _).mono ?_
    rintro e w' ⟨rfl, hb⟩
    go_wp2_with fail
    go_ret
    exact ⟨rfl, hb⟩
  by_cases h12 : 20 < ms.length
  · go_enter Tryz.func5, Tryz.ntmps5
    go_wp2_with fail
    refine (awake_any _).mono ?_
    rintro e w' ⟨rfl, hb⟩
    go_wp2_with fail
    go_ret
    exact ⟨rfl, hb⟩
  have hmn : manyE ms.length = 0 := by unfold manyE; rw [if_neg (by omega)]
  have CS := fun (w : World) (hS : Ints w a cap l) => rCheckStand_any a cap l w hS
  obtain ⟨q1, hq1⟩ : ∃ q, q = checkStand l := ⟨_, rfl⟩
  rw [← hq1] at CS
  have HCS := hid CS; clear CS
  by_cases hz : q1 = 0
  · subst hz
    have hcs : checkStand l = 0 := hq1.symm
    have hst := checkStand_iff.1 hcs
    have hlo := hst.lo
    have hn0 : 0 < l.length := by omega
    -- what is computed
    obtain ⟨LS, hLS⟩ : ∃ LS, LS = legalSub l ms := ⟨_, rfl⟩
    obtain ⟨R, hR⟩ : ∃ R, R = (replayL l ms).2 := ⟨_, rfl⟩
    obtain ⟨T, hT⟩ : ∃ T, T = runL l LS := ⟨_, rfl⟩
    have hok : okAll l LS := by rw [hLS]; exact legalSub_ok ms l
    have hTr : (replayL l ms).1 = T := by rw [hT, hLS]; exact legalSub_run ms l 0 []
    have hTl : T.length = l.length := by rw [hT]; exact runL_len _ _
    have hTs : Stand T := by rw [hT]; exact stand_run hst hok
    have hLl : LS.length ≤ 20 := by rw [hLS]; have := legalSub_len ms l; omega
    have hRl : R.length ≤ 20 := by rw [hR]; have := replayGo_al ms l 0 []; unfold replayL; simp at this; omega
    have hcnt : ∀ x, T.count x = l.count x := fun x => by rw [hT]; exact count_run x LS l hok
    have hTi : ∀ x ∈ T, InI x := fun x hx => inI_small (hTs.rng x hx)
    have hLi : ∀ x ∈ l, InI x := hI
    have hR1 : replayL l LS = (T, []) := by rw [okAll_run hok, hT]
    obtain ⟨hu1, hu2⟩ := undo_back LS l hok
    rw [← hT] at hu1 hu2
    have hR2 : replayL T (undoL LS) = (l, []) := by rw [okAll_run hu1, hu2]
    obtain ⟨hv1, hv2⟩ := turn_run X LS l hok
    rw [← hT] at hv2
    obtain ⟨TM, hTM⟩ : ∃ TM, TM = LS.map (turnM l.length X) := ⟨_, rfl⟩
    rw [← hTM] at hv1 hv2
    have hTMl : TM.length ≤ 20 := by rw [hTM]; simpa using hLl
    obtain ⟨XL, hXL⟩ : ∃ XL, XL = turnedL l X := ⟨_, rfl⟩
    obtain ⟨YL, hYL⟩ : ∃ YL, YL = turnedL T X := ⟨_, rfl⟩
    rw [← hXL] at hv1 hv2
    rw [← hYL] at hv2
    have hXs : Stand XL := by rw [hXL]; exact turn_stand hst
    have hXl : XL.length = l.length := by rw [hXL]; exact turnedL_len _ _
    have hYl : YL.length = l.length := by rw [hYL, turnedL_len]; exact hTl
    have hR3 : replayL XL TM = (YL, []) := by rw [okAll_run hv1, hv2]
    have hXi : ∀ x ∈ XL, InI x := fun x hx => inI_small (hXs.rng x hx)
    have repE : ∀ (s : List Int) (m : List (Int × Int)), Stand s → m.length ≤ 20 → replayE s m = 0 := fun s m h1 h2 => by
      have e2 : manyE m.length = 0 := by unfold manyE; rw [if_neg (by omega)]
      rw [replayE, if_neg (by simp [checkStand_iff.2 h1]), e2]
    have rep : ∀ (s t : List Int) (m : List (Int × Int)) (r : List (Int × Int)), Stand s → m.length ≤ 20 → (∀ x ∈ s, InI x) → replayL s m = (t, r) → ∀ (a a2 : Option Addr) (cap cap2 : Nat) (w : World), Ints w a cap s → Pairs w a2 cap2 m →
        Calls Tryz.prog 25 #[.slice a s.length cap, .slice a2 m.length cap2] w fun q w' => ∃ a' cap' a3 cap3, q = .returned (.tuple #[.slice a' t.length cap', .slice a3 r.length cap3, .int .i64 0]) ∧ Ints w' a' cap' t ∧ Pairs w' a3 cap3 r ∧ Below w.heap.size w w' := by
      intro s t m r h1 h2 h3 h4 a a2 cap cap2 w hS hM
      have h := Replay_any a a2 cap cap2 s m w hS hM h3 (by omega)
      have e0 := repE s m h1 h2
      have e1 : replayT s m = t := by rw [replayT, if_pos e0, h4]
      have e2 : replayA s m = r := by rw [replayA, if_pos e0, h4]
      rw [e0, e1, e2] at h
      exact h
    have C0 := rep l T ms R hst (by omega) hLi (Prod.ext hTr hR.symm)
    have C1 := rep l T LS [] hst hLl hLi hR1
    have C3 := rep T l (undoL LS) [] hTs (by rw [undoL_len]; exact hLl) hTi hR2
    have C5 := rep XL YL TM [] hXs hTMl hXi hR3
    have C2 := fun (a : Option Addr) (cap : Nat) (w : World) (hM : Pairs w a cap LS) => Undo_any a cap LS w hM (by omega)
    have e2 : manyE LS.length = 0 := by unfold manyE; rw [if_neg (by omega)]
    rw [if_pos e2, e2] at C2
    have C4 := fun (a : Option Addr) (cap : Nat) (w : World) (hS : Ints w a cap l) => Turned_any X a cap l w hS hLi (by unfold InI; omega)
    rw [if_pos hcs, hcs, turned_mod, ← hXL] at C4
    have C6 := fun (a : Option Addr) (cap : Nat) (w : World) (hS : Ints w a cap T) => Turned_any X a cap T w hS hTi (by unfold InI; omega)
    rw [if_pos (checkStand_iff.2 hTs), checkStand_iff.2 hTs, turned_mod, ← hYL] at C6
    rw [hTl] at C3 C6
    rw [hXl] at C5
    rw [hYl] at C5
    rw [hTl] at C0 C1
    have hst0 := RtI.start l ms
    rw [← hLS, ← hR] at hst0
    have H0 := hid C0; have H1 := hid C1; have H2 := hid C2; have H3 := hid C3; have H4 := hid C4; have H5 := hid C5; have H6 := hid C6
    have HTL := hid hTl; have HCN := hid hcnt; have HLI := hid hLi; have HTI := hid hTi; have HST := hid hst0; have HTM := hid hTM; have HUL : Hid ((undoL LS).length = LS.length) := hid (undoL_len LS)
    have HXL := hid hXl; have HYL := hid hYl
    clear C0 C1 C2 C3 C4 C5 C6 hTl hcnt hLi hTi hst0 hTM hXl hYl e2 rep repE hXi hR3 hXs hv1 hv2 hR1 hR2 hu1 hu2 hTs hTr hok hXL hYL hT hR hLS hst hcs hq1 hmn hI
    go_enter Tryz.func5, Tryz.ntmps5
    go_wp2_with fail
    refine (HCS.out w hS).mono ?_
    rintro e w0 ⟨rfl, b0⟩
    go_wp2_with fail
    refine (numbers_any a cap l _ (hS.below b0) (by omega)).mono ?_
    rintro e w1 ⟨v1, rfl, ho1, b1⟩
    obtain ⟨a1, c1, rfl, h1, _, _⟩ := ho1.reps
    have t1 := bnext b0 b1
    go_wp2_with fail
    refine (moves_any a2 cap2 ms w1 (hM.below t1) (by omega)).mono ?_
    rintro e w2 ⟨v2, rfl, ho2, b2⟩
    obtain ⟨a2', c2, rfl, h2, _, _⟩ := ho2.reps
    have t2 := bnext t1 b2
    go_wp2_with fail
    refine (H0.out a1 a2' c1 c2 w2 (h1.below b2) h2).mono ?_
    rintro e w3 ⟨at_, ct, ar, cr, rfl, hT3, hR3, b3⟩
    have t3 := bnext t2 b3
    have hS3 := hS.below t3
    have hM3 := hM.below t3
    clear ho1 ho2 h1 h2 b0 b1 b2 b3 t1 t2 hS hM
    have hmm := @run_makeMap Tryz.prog
    have hA0 := ((SL.nil w3).madeCnt).madeCnt
    simp only [World.size_alloc] at hA0
    go_wp2_with fail
    clear hmm
    go_loopw [71, 12] (fun i _ wr => ∃ k : Nat, k ≤ l.length ∧ i = .int .i64 k ∧ SL w3.heap.size w3 wr [pCnt (w3.heap.size + 1) k (T.take k), pCnt w3.heap.size k (l.take k)]) (fun i _ _ => l.length - (intOf i).toNat)
    case atStart => exact ⟨0, by omega, rfl, hA0⟩
    case round =>
      clear hA0
      obtain ⟨k, hk, rfl, hA⟩ := hrel
      have hSr := hS3.below hA.b
      by_cases hlt : k < l.length
      · have hltT : k < T.length := by rw [HTL.out]; exact hlt
        have i1 := HLI.out (atD 0 l k) (atD_mem hlt)
        have i2 := HTI.out (atD 0 T k) (atD_mem hltT)
        have s1 := take_step 0 l k hlt
        have s2 := take_step 0 T k hltT
        have n1 : (l.take k).length ≤ 1048576 := by simp; omega
        have n2 : (T.take k).length ≤ 1048576 := by simp; omega
        have n3 : k < maxLen := by unfold maxLen; omega
        have b1 : (l.take k).count (atD 0 l k) ≤ 16 := Nat.le_trans List.count_le_length (by simp; omega)
        have b2 : (T.take k).count (atD 0 T k) ≤ 16 := Nat.le_trans List.count_le_length (by simp; omega)
        have S1 := hid s1; have S2 := hid s2
        clear s1 s2 hltT
        go_wp2_with (first | (with_reducible refine wpList_idx _ 0 E_ints F_int cInt1 (by with_unfolding_all rfl) (by with_unfolding_all rfl) (hSr) (by first | omega | (simp; done)) (by first | omega | (simp; done)) (fun _ => by with_unfolding_all rfl) (fun _ => ?_)) | (with_reducible refine wpList_lookC (by with_unfolding_all rfl) (by with_unfolding_all rfl) (hA.cnt 1 rfl) i1 (by with_unfolding_all rfl) ?_) | ((with_reducible refine wpList_putCL 1 (k := atD 0 l k) (by with_unfolding_all rfl) (by with_unfolding_all rfl) (by with_unfolding_all rfl) hA rfl i1 n1 n3 ?_); intro w4 hA4; have hT4 := hT3.below hA4.b) | (with_reducible refine wpList_idxN _ 0 E_ints F_int cInt1 (by with_unfolding_all rfl) (by with_unfolding_all rfl) (hT4) (HTL.out) (by first | omega | (simp; done)) (by first | omega | (simp; done)) (fun _ => by with_unfolding_all rfl) (fun _ => ?_)) | (with_reducible refine wpList_lookC (by with_unfolding_all rfl) (by with_unfolding_all rfl) (hA4.cnt 0 rfl) i2 (by with_unfolding_all rfl) ?_) | ((with_reducible refine wpList_putCL 0 (k := atD 0 T k) (by with_unfolding_all rfl) (by with_unfolding_all rfl) (by with_unfolding_all rfl) hA4 rfl i2 n2 n3 ?_); intro w5 hA5))
        exact ⟨⟨k + 1, by omega, by go_num, by rw [S1.out, S2.out]; exact hA5⟩, by simp [intOf]; omega⟩
      · have hkl : k = l.length := by omega
        subst hkl
        obtain ⟨WQ, rfl⟩ : ∃ W, W = wr := ⟨_, rfl⟩
        have eT : T.take l.length = T := by rw [← HTL.out]; exact List.take_length
        rw [List.take_length, eT] at hA
        clear eT
        obtain ⟨z, z1, z2⟩ := (hA.cnt 1 rfl).len
        have z3 := z2 _ _ _ (hA.cnt 0 rfl) HCN.out
        clear z2
        obtain ⟨D, hown, hD⟩ := hA.cnt 1 rfl
        have HDD := hid hD; clear hD
        go_wp2_with (first | (at_range; refine wpList_range_own _ rfl _ 50 rfl 3 3 keyI Tryz.underlying50 _ w3.heap.size l.length D rfl hown ?_; intro w6 hrg0 hg0 hs0))
        go_frame
        clear z1 z3 hown
        go_loopw [13, 14] (fun _ _ wq => ∃ (left : Lit → Bool) (cnt : Nat), wq.ranges Tryz.prog 3 (plainElem Tryz.prog 3) w3.heap.size WQ.heap.size l.length D left cnt ∧ Below WQ.heap.size WQ wq) (fun _ _ wq => wq.rangeLeft w3.heap.size WQ.heap.size)
        case atStart => exact ⟨_, _, hrg0, (Below.refl _ _).grown hg0 (Nat.le_refl _) (fun j hj => by cases hj)⟩
        case round =>
          obtain ⟨left, cnt, hrg, hbq⟩ := hrel
          go_wp2_with (first | (at_next; refine wpList_next_ranges_ii _ rfl _ rfl 3 3 .i64 .i64 keyI Tryz.underlying3 Tryz.underlying3 w3.heap.size WQ.heap.size l.length _ _ _ rfl hrg ?_ ?_))
          · intro hc0 hl0
            have hAq := hA.mono hbq
            have hw3 := hAq.b
            have hTq := hT3.below hw3
            have hRq := hR3.below hw3
            have hSq := hS3.below hw3
            have hMq := hM3.below hw3
            clear hA hAq hrg hbq hl0 hc0 hrg0 hg0 hs0 HDD hSr hT3 hR3 hS3 hM3
            obtain ⟨V, rfl⟩ : ∃ V, V = wr := ⟨_, rfl⟩
            have hB0 := ((SL.nil V).nilS (α := Int × Int) (e := 55) cPairS).nilS (α := Int × Int) (e := 55) cPairS
            go_wp2_with fail
            go_loopw [108, 15, 16, 17, 18, 19] (fun i v15 v16 av _ _ wq => ∃ (k : Nat) (s : List Int) (ac lg : List (Int × Int)), k ≤ ms.length ∧ i = .int .i64 k ∧ av = .int .i64 ac.length ∧ s.length = l.length ∧ RtI R LS ms k s ac lg ∧ SL V.heap.size V wq [pOwn cPair 2 55 v15 lg, pOwn cPair 2 55 v16 (lg.map (turnM l.length X))]) (fun i _ _ _ _ _ _ => ms.length - (intOf i).toNat)
            case atStart => exact ⟨0, l, [], [], by omega, rfl, rfl, rfl, HST.out, hB0⟩
            case round =>
              clear hB0
              obtain ⟨k, s, ac, lg, hk, rfl, rfl, hsl, hI0, hB⟩ := hrel
              have hla := hI0.la
              have hll := hI0.ll
              have hMr := hMq.below hB.b
              by_cases hlt : k < ms.length
              · obtain ⟨F, hF⟩ : ∃ F, F = (atD (0, 0) ms k).1 := ⟨_, rfl⟩
                obtain ⟨G, hG⟩ : ∃ G, G = (atD (0, 0) ms k).2 := ⟨_, rfl⟩
                have hFG : atD (0, 0) ms k = (F, G) := by rw [hF, hG]
                have hB2 := hB.box (.cells #[.int .i64 F, .int .i64 G] 52)
                have hR5 := hRq.below hB2.b
                have q5 := (hB2.blk 0 rfl).1
                have hce : cPair (atD (0, 0) ms k) = .agg #[.int .i64 F, .int .i64 G] := by rw [hF, hG]; rfl
                have HCE := hid hce; clear hce
                obtain ⟨RQ, hRQ⟩ : ∃ z, z = (atD (0, 0) R ac.length).1 := ⟨_, rfl⟩
                have hv0 : (cPair (atD (0, 0) R ac.length)).cells.toList[0]? = some (.int .i64 RQ) := by rw [hRQ]; rfl
                have HSL := hid hsl; clear hsl
                by_cases hleg : legalN s F G = 0
                · obtain ⟨hI1, hne⟩ := hI0.legal hlt (by rw [← hF, ← hG]; exact hleg)
                  rw [← hRQ] at hne
                  rw [hFG] at hI1
                  obtain ⟨f0, f1, g0, g1, _, _⟩ := legalN_zero hleg
                  rw [HSL.out] at f1 g1
                  have hsn : (nextL s F G).length = l.length := by rw [nextL_len, HSL.out]
                  obtain ⟨A1, hA1⟩ : ∃ z, z = (F + X) % (l.length : Int) := ⟨_, rfl⟩
                  obtain ⟨A2, hA2⟩ : ∃ z, z = (G + X) % (l.length : Int) := ⟨_, rfl⟩
                  have htu : (lg ++ [(F, G)]).map (turnM l.length X) = lg.map (turnM l.length X) ++ [(A1, A2)] := by rw [List.map_append, hA1, hA2]; rfl
                  have a10 : 0 ≤ A1 ∧ A1 < l.length := by rw [hA1]; exact ⟨Int.emod_nonneg _ (by omega), Int.emod_lt_of_pos _ (by omega)⟩
                  have a20 : 0 ≤ A2 ∧ A2 < l.length := by rw [hA2]; exact ⟨Int.emod_nonneg _ (by omega), Int.emod_lt_of_pos _ (by omega)⟩
                  have tm1 : (F + X).tmod l.length = A1 := by rw [hA1, Int.tmod_eq_emod_of_nonneg (by omega)]
                  have tm2 : (G + X).tmod l.length = A2 := by rw [hA2, Int.tmod_eq_emod_of_nonneg (by omega)]
                  have w1 : IntKind.i64.wrap (F + X) = F + X := IntWalk.i64_in _ (by omega)
                  have w2 : IntKind.i64.wrap (G + X) = G + X := IntWalk.i64_in _ (by omega)
                  have w3' : IntKind.i64.wrap A1 = A1 := IntWalk.i64_in _ (by omega)
                  have w4 : IntKind.i64.wrap A2 = A2 := IntWalk.i64_in _ (by omega)
                  have w5' : IntKind.i64.wrap X = X := IntWalk.i64_in _ (by omega)
                  have hnz : ¬ l.length = 0 := by omega
                  have hle1 : lg.length ≤ 1000 := by omega
                  have hle2 : (lg.map (turnM l.length X)).length ≤ 1000 := by simp; omega
                  have HI1 := hid hI1; have HSN := hid hsn; have HTU := hid htu
                  clear hI1 hsn htu hA1 hA2 hF hG hFG hRQ hleg hI0
                  by_cases hq : ac.length < R.length
                  · have dne : (RQ == (k : Int) + 1) = false := by simpa using hne hq
                    clear hne
                    go_wp2_with (first | ((with_reducible refine wpList_idxS _ (0, 0) E_rmoves F_rmove cPair1 (by with_unfolding_all rfl) (by with_unfolding_all rfl) (hMr) (by first | omega | (simp; done)) (by first | omega | (simp; done)) (fun _ => by with_unfolding_all rfl) (fun _ => ?_)); rw [HCE.out]) | (with_reducible refine wpList_fldG (0, 0) (.int .i64 RQ) E_refs F_int fld_ref0 (by with_unfolding_all rfl) (by with_unfolding_all rfl) hR5 rfl (by omega) (by omega) hv0 (fun _ => by with_unfolding_all rfl) (fun _ _ => by with_unfolding_all rfl) (by with_unfolding_all rfl) (fun _ => by with_unfolding_all rfl) (fun _ _ => by with_unfolding_all rfl) (fun _ _ => ?_)) | (with_reducible refine wpList_ldB F_int (by with_unfolding_all rfl) (by with_unfolding_all rfl) q5 (by with_unfolding_all rfl) ?_) | (with_reducible refine wpList_ldS (n := 2) (us := #[.int .i64 F, .int .i64 G]) F_rmove (by kernel_rfl) (by with_unfolding_all rfl) (by with_unfolding_all rfl) (by assumption) (by with_unfolding_all rfl) (by with_unfolding_all rfl) ?_) | ((with_reducible refine wpList_pushL (y := (F, G)) 1 E_moves (by with_unfolding_all rfl) (by with_unfolding_all rfl) (hB2) (by with_unfolding_all rfl) cPairO ⟨rfl, rfl⟩ (by first | with_unfolding_all rfl | simp) (by with_unfolding_all rfl) (by first | omega | (simp; omega)) (by first | omega | (simp; omega)) ?_); intro v6 w6 hB6))
                    have q6 := (hB6.blk 0 rfl).1
                    have k60 : w6.cell? ⟨wr.heap.size, 0, none⟩ = some (.int .i64 F) := hB6.cell 0 rfl 0 rfl
                    have k61 : w6.cell? ⟨wr.heap.size, 1, none⟩ = some (.int .i64 G) := hB6.cell 0 rfl 1 rfl
                    refine wp_regionK (C := (fun w' => Below V.heap.size V w' ∧ w'.cell? ⟨wr.heap.size, 0, none⟩ = some (.int .i64 F) ∧ w'.cell? ⟨wr.heap.size, 1, none⟩ = some (.int .i64 G))) [0, 1, 2, 3, 4, 5, 6, 7, 8, 9, 10, 11, 12, 13, 14, 15, 16, 17] [_, _, _, _, _, _, _, _, _, _, _, _, _, _, _, _, _, _] 3 (by simp only [List.map_cons, List.map_nil, List.getElem?_toArray]; rfl) rfl (by kernel_rfl) (by kernel_rfl) (by kernel_rfl) (⟨hB6.b.drew, k60, k61⟩) ?_
                    refine ⟨_, yieldsK_val (by with_unfolding_all rfl) (fun w' => by with_unfolding_all exact rfl), ?_⟩
                    go_frame
                    refine ⟨.pointer (some ⟨wr.heap.size, 0, none⟩), yieldsK_val (by with_unfolding_all rfl) (fun w' => by first | (go_simp; done) | (go_simp; rfl)), ?_⟩
                    go_frame
                    refine ⟨_, yieldsK_cellC F_int (fun w' h => h.2.1) (by with_unfolding_all rfl) (by with_unfolding_all rfl), ?_⟩
                    go_frame
                    refine ⟨_, yieldsK_val (by with_unfolding_all rfl) (fun w' => by with_unfolding_all exact rfl), ?_⟩
                    go_frame
                    refine ⟨.int .i64 X, yieldsK_val (by with_unfolding_all rfl) (fun w' => by first | (go_simp; done) | (go_simp; rfl)), ?_⟩
                    go_frame
                    refine ⟨.int .i64 (F + X), yieldsK_val (by with_unfolding_all rfl) (fun w' => by first | (go_simp; done) | (go_simp; rfl)), ?_⟩
                    go_frame
                    refine ⟨_, yieldsK_val (by with_unfolding_all rfl) (fun w' => by with_unfolding_all exact rfl), ?_⟩
                    go_frame
                    refine ⟨_, yieldsK_val (by with_unfolding_all rfl) (fun w' => by with_unfolding_all exact rfl), ?_⟩
                    go_frame
                    refine ⟨.int .i64 A1, yieldsK_val (by with_unfolding_all rfl) (fun w' => by first | (go_simp; done) | (go_simp; rfl)), ?_⟩
                    go_frame
                    refine ⟨.pointer (some ⟨wr.heap.size, 1, none⟩), yieldsK_val (by with_unfolding_all rfl) (fun w' => by first | (go_simp; done) | (go_simp; rfl)), ?_⟩
                    go_frame
                    refine ⟨_, yieldsK_cellC F_int (fun w' h => h.2.2) (by with_unfolding_all rfl) (by with_unfolding_all rfl), ?_⟩
                    go_frame
                    refine ⟨_, yieldsK_val (by with_unfolding_all rfl) (fun w' => by with_unfolding_all exact rfl), ?_⟩
                    go_frame
                    refine ⟨.int .i64 X, yieldsK_val (by with_unfolding_all rfl) (fun w' => by first | (go_simp; done) | (go_simp; rfl)), ?_⟩
                    go_frame
                    refine ⟨.int .i64 (G + X), yieldsK_val (by with_unfolding_all rfl) (fun w' => by first | (go_simp; done) | (go_simp; rfl)), ?_⟩
                    go_frame
                    refine ⟨_, yieldsK_val (by with_unfolding_all rfl) (fun w' => by with_unfolding_all exact rfl), ?_⟩
                    go_frame
                    refine ⟨_, yieldsK_val (by with_unfolding_all rfl) (fun w' => by with_unfolding_all exact rfl), ?_⟩
                    go_frame
                    refine ⟨.int .i64 A2, yieldsK_val (by with_unfolding_all rfl) (fun w' => by first | (go_simp; done) | (go_simp; rfl)), ?_⟩
                    go_frame
                    refine ⟨_, yieldsK_val (by with_unfolding_all rfl) (fun w' => by with_unfolding_all exact rfl), ?_⟩
                    go_frame
                    unfold wpPureK
                    have hVd : ({ w6 with drawn := w6.drawn + 1 } : World) = w6.drew := rfl
                    rw [hVd]
                    have hB7 := hB6.drew
                    refine wpAnyC_on [18] (by kernel_rfl) (by simp) ?_
                    simp only [List.forall_mem_cons, List.not_mem_nil, false_implies, implies_true, and_true]
                    refine wpOp_value (v := .slice (some ⟨w6.drew.heap.size, 0, none⟩) 1 1) (w' := w6.drew.alloc (.cells #[.int .i64 A1, .int .i64 A2] 55)) (by rw [List.getElem?_toArray]; rfl) (by with_unfolding_all rfl) (by first | (go_simp; done) | (go_simp; rfl) | (simp [execOp, Act.eval, Result.andThen]; done)) ?_
                    refine ⟨⟨(hB7.al _).b, (hB7.al _).cell 0 rfl 0 rfl, (hB7.al _).cell 0 rfl 1 rfl⟩, ?_⟩
                    go_frame
                    refine wpAnyC_on [19] (by kernel_rfl) (by simp) ?_
                    simp only [List.forall_mem_cons, List.not_mem_nil, false_implies, implies_true, and_true]
                    refine wpOp_of_list (by rw [List.getElem?_toArray]; rfl) ?_
                    ((with_reducible refine wpList_pushL (y := (A1, A2)) 2 E_moves (by with_unfolding_all rfl) (by with_unfolding_all rfl) (hB7) (by with_unfolding_all rfl) cPairO ⟨rfl, rfl⟩ (by first | with_unfolding_all rfl | simp) (by with_unfolding_all rfl) (by first | omega | (simp; omega)) (by first | omega | (simp; omega)) ?_); intro v8 w8 hB8)
                    refine ⟨⟨hB8.b, hB8.cell 0 rfl 0 rfl, hB8.cell 0 rfl 1 rfl⟩, ?_⟩
                    go_frame
                    refine wpAnyC_rest [20] [_] rfl (by simp only [List.map_cons, List.map_nil, List.getElem?_toArray]; rfl) (by kernel_rfl) (by kernel_rfl) (by kernel_rfl) (⟨hB8.b, hB8.cell 0 rfl 0 rfl, hB8.cell 0 rfl 1 rfl⟩) ?_
                    repeat (refine ⟨_, .inl ⟨by with_unfolding_all rfl, fun w' _ => by with_unfolding_all exact rfl⟩, ?_⟩; go_frame)
                    unfold wpPure
                    refine of_wpList_nil (P := Tryz.prog) (ops := #[]) ?_
                    go_wp2_with fail
                    exact ⟨⟨k + 1, nextL s F G, ac, lg ++ [(F, G)], by omega, by go_num, rfl, HSN.out, HI1.out, by rw [HTU.out]; exact hB8.tail⟩, by simp [intOf]; omega⟩
                  · clear hne hv0
                    go_wp2_with (first | ((with_reducible refine wpList_idxS _ (0, 0) E_rmoves F_rmove cPair1 (by with_unfolding_all rfl) (by with_unfolding_all rfl) (hMr) (by first | omega | (simp; done)) (by first | omega | (simp; done)) (fun _ => by with_unfolding_all rfl) (fun _ => ?_)); rw [HCE.out]) | (with_reducible refine wpList_ldB F_int (by with_unfolding_all rfl) (by with_unfolding_all rfl) q5 (by with_unfolding_all rfl) ?_) | (with_reducible refine wpList_ldS (n := 2) (us := #[.int .i64 F, .int .i64 G]) F_rmove (by kernel_rfl) (by with_unfolding_all rfl) (by with_unfolding_all rfl) (by assumption) (by with_unfolding_all rfl) (by with_unfolding_all rfl) ?_) | ((with_reducible refine wpList_pushL (y := (F, G)) 1 E_moves (by with_unfolding_all rfl) (by with_unfolding_all rfl) (hB2) (by with_unfolding_all rfl) cPairO ⟨rfl, rfl⟩ (by first | with_unfolding_all rfl | simp) (by with_unfolding_all rfl) (by first | omega | (simp; omega)) (by first | omega | (simp; omega)) ?_); intro v6 w6 hB6))
                    have q6 := (hB6.blk 0 rfl).1
                    have k60 : w6.cell? ⟨wr.heap.size, 0, none⟩ = some (.int .i64 F) := hB6.cell 0 rfl 0 rfl
                    have k61 : w6.cell? ⟨wr.heap.size, 1, none⟩ = some (.int .i64 G) := hB6.cell 0 rfl 1 rfl
                    refine wp_regionK (C := (fun w' => Below V.heap.size V w' ∧ w'.cell? ⟨wr.heap.size, 0, none⟩ = some (.int .i64 F) ∧ w'.cell? ⟨wr.heap.size, 1, none⟩ = some (.int .i64 G))) [0, 1, 2, 3, 4, 5, 6, 7, 8, 9, 10, 11, 12, 13, 14, 15, 16, 17] [_, _, _, _, _, _, _, _, _, _, _, _, _, _, _, _, _, _] 3 (by simp only [List.map_cons, List.map_nil, List.getElem?_toArray]; rfl) rfl (by kernel_rfl) (by kernel_rfl) (by kernel_rfl) (⟨hB6.b.drew, k60, k61⟩) ?_
                    refine ⟨_, yieldsK_val (by with_unfolding_all rfl) (fun w' => by with_unfolding_all exact rfl), ?_⟩
                    go_frame
                    refine ⟨.pointer (some ⟨wr.heap.size, 0, none⟩), yieldsK_val (by with_unfolding_all rfl) (fun w' => by first | (go_simp; done) | (go_simp; rfl)), ?_⟩
                    go_frame
                    refine ⟨_, yieldsK_cellC F_int (fun w' h => h.2.1) (by with_unfolding_all rfl) (by with_unfolding_all rfl), ?_⟩
                    go_frame
                    refine ⟨_, yieldsK_val (by with_unfolding_all rfl) (fun w' => by with_unfolding_all exact rfl), ?_⟩
                    go_frame
                    refine ⟨.int .i64 X, yieldsK_val (by with_unfolding_all rfl) (fun w' => by first | (go_simp; done) | (go_simp; rfl)), ?_⟩
                    go_frame
                    refine ⟨.int .i64 (F + X), yieldsK_val (by with_unfolding_all rfl) (fun w' => by first | (go_simp; done) | (go_simp; rfl)), ?_⟩
                    go_frame
                    refine ⟨_, yieldsK_val (by with_unfolding_all rfl) (fun w' => by with_unfolding_all exact rfl), ?_⟩
                    go_frame
                    refine ⟨_, yieldsK_val (by with_unfolding_all rfl) (fun w' => by with_unfolding_all exact rfl), ?_⟩
                    go_frame
                    refine ⟨.int .i64 A1, yieldsK_val (by with_unfolding_all rfl) (fun w' => by first | (go_simp; done) | (go_simp; rfl)), ?_⟩
                    go_frame
                    refine ⟨.pointer (some ⟨wr.heap.size, 1, none⟩), yieldsK_val (by with_unfolding_all rfl) (fun w' => by first | (go_simp; done) | (go_simp; rfl)), ?_⟩
                    go_frame
                    refine ⟨_, yieldsK_cellC F_int (fun w' h => h.2.2) (by with_unfolding_all rfl) (by with_unfolding_all rfl), ?_⟩
                    go_frame
                    refine ⟨_, yieldsK_val (by with_unfolding_all rfl) (fun w' => by with_unfolding_all exact rfl), ?_⟩
                    go_frame
                    refine ⟨.int .i64 X, yieldsK_val (by with_unfolding_all rfl) (fun w' => by first | (go_simp; done) | (go_simp; rfl)), ?_⟩
                    go_frame
                    refine ⟨.int .i64 (G + X), yieldsK_val (by with_unfolding_all rfl) (fun w' => by first | (go_simp; done) | (go_simp; rfl)), ?_⟩
                    go_frame
                    refine ⟨_, yieldsK_val (by with_unfolding_all rfl) (fun w' => by with_unfolding_all exact rfl), ?_⟩
                    go_frame
                    refine ⟨_, yieldsK_val (by with_unfolding_all rfl) (fun w' => by with_unfolding_all exact rfl), ?_⟩
                    go_frame
                    refine ⟨.int .i64 A2, yieldsK_val (by with_unfolding_all rfl) (fun w' => by first | (go_simp; done) | (go_simp; rfl)), ?_⟩
                    go_frame
                    refine ⟨_, yieldsK_val (by with_unfolding_all rfl) (fun w' => by with_unfolding_all exact rfl), ?_⟩
                    go_frame
                    unfold wpPureK
                    have hVd : ({ w6 with drawn := w6.drawn + 1 } : World) = w6.drew := rfl
                    rw [hVd]
                    have hB7 := hB6.drew
                    refine wpAnyC_on [18] (by kernel_rfl) (by simp) ?_
                    simp only [List.forall_mem_cons, List.not_mem_nil, false_implies, implies_true, and_true]
                    refine wpOp_value (v := .slice (some ⟨w6.drew.heap.size, 0, none⟩) 1 1) (w' := w6.drew.alloc (.cells #[.int .i64 A1, .int .i64 A2] 55)) (by rw [List.getElem?_toArray]; rfl) (by with_unfolding_all rfl) (by first | (go_simp; done) | (go_simp; rfl) | (simp [execOp, Act.eval, Result.andThen]; done)) ?_
                    refine ⟨⟨(hB7.al _).b, (hB7.al _).cell 0 rfl 0 rfl, (hB7.al _).cell 0 rfl 1 rfl⟩, ?_⟩
                    go_frame
                    refine wpAnyC_on [19] (by kernel_rfl) (by simp) ?_
                    simp only [List.forall_mem_cons, List.not_mem_nil, false_implies, implies_true, and_true]
                    refine wpOp_of_list (by rw [List.getElem?_toArray]; rfl) ?_
                    ((with_reducible refine wpList_pushL (y := (A1, A2)) 2 E_moves (by with_unfolding_all rfl) (by with_unfolding_all rfl) (hB7) (by with_unfolding_all rfl) cPairO ⟨rfl, rfl⟩ (by first | with_unfolding_all rfl | simp) (by with_unfolding_all rfl) (by first | omega | (simp; omega)) (by first | omega | (simp; omega)) ?_); intro v8 w8 hB8)
                    refine ⟨⟨hB8.b, hB8.cell 0 rfl 0 rfl, hB8.cell 0 rfl 1 rfl⟩, ?_⟩
                    go_frame
                    refine wpAnyC_rest [20] [_] rfl (by simp only [List.map_cons, List.map_nil, List.getElem?_toArray]; rfl) (by kernel_rfl) (by kernel_rfl) (by kernel_rfl) (⟨hB8.b, hB8.cell 0 rfl 0 rfl, hB8.cell 0 rfl 1 rfl⟩) ?_
                    repeat (refine ⟨_, .inl ⟨by with_unfolding_all rfl, fun w' _ => by with_unfolding_all exact rfl⟩, ?_⟩; go_frame)
                    unfold wpPure
                    refine of_wpList_nil (P := Tryz.prog) (ops := #[]) ?_
                    go_wp2_with fail
                    exact ⟨⟨k + 1, nextL s F G, ac, lg ++ [(F, G)], by omega, by go_num, rfl, HSN.out, HI1.out, by rw [HTU.out]; exact hB8.tail⟩, by simp [intOf]; omega⟩
                · obtain ⟨⟨y, hI1⟩, hq, he⟩ := hI0.aside hlt (by rw [← hF, ← hG]; exact hleg)
                  rw [← hRQ] at he
                  have deq : (RQ == (k : Int) + 1) = true := by simpa using he
                  have HI1 := hid hI1
                  clear he hI1 hF hG hFG hRQ hleg hI0
                  go_wp2_with (first | ((with_reducible refine wpList_idxS _ (0, 0) E_rmoves F_rmove cPair1 (by with_unfolding_all rfl) (by with_unfolding_all rfl) (hMr) (by first | omega | (simp; done)) (by first | omega | (simp; done)) (fun _ => by with_unfolding_all rfl) (fun _ => ?_)); rw [HCE.out]) | (with_reducible refine wpList_fldG (0, 0) (.int .i64 RQ) E_refs F_int fld_ref0 (by with_unfolding_all rfl) (by with_unfolding_all rfl) hR5 rfl (by omega) (by omega) hv0 (fun _ => by with_unfolding_all rfl) (fun _ _ => by with_unfolding_all rfl) (by with_unfolding_all rfl) (fun _ => by with_unfolding_all rfl) (fun _ _ => by with_unfolding_all rfl) (fun _ _ => ?_)) | fail)
                  exact ⟨⟨k + 1, s, ac ++ [y], lg, by omega, by go_num, by simp, HSL.out, HI1.out, hB2.tail⟩, by simp [intOf]; omega⟩
              · have hkl : k = ms.length := by omega
                subst hkl
                obtain ⟨e1, e2⟩ := hI0.fin
                subst e1 e2
                rw [← HTM.out] at hB
                obtain ⟨al, cl, rfl, hLr⟩ := hB.slice 0 rfl
                obtain ⟨am, cm, rfl, hTr⟩ := hB.slice 1 rfl
                have hTb := hTq.below hB.b
                have hSb := hSq.below hB.b
                have hw4 := bnext hw3 hB.b
                clear hB hI0 hla hll hMr hTq hRq hSq hMq hsl
                have hTL := HTL.out
                go_wp2_with fail
                refine (numbers_any a cap l _ hSb (by omega)).mono ?_
                rintro e w1 ⟨v1, rfl, ho1, b1⟩
                obtain ⟨a1, c1, rfl, h1, _, _⟩ := ho1.reps
                go_wp2_with fail
                refine (H1.out a1 al c1 cl w1 h1 (hLr.below b1)).mono ?_
                rintro e w2 ⟨au, cu, an, cn, rfl, hU2, _, b2⟩
                have s2 := bnext b1 b2
                go_wp2_with fail
                refine (H2.out al cl w2 (hLr.below s2)).mono ?_
                rintro e w3 ⟨ad, cd, rfl, hD3, _, b3⟩
                have s3 := bnext s2 b3
                go_wp2_with fail
                have hsi := SameInts_any au at_ cu ct T T w3 (hU2.below b3) (hTb.below s3) (by omega)
                rw [decide_eq_true rfl, hTL] at hsi
                have HSI := hid hsi; clear hsi
                clear hTL
                refine HSI.out.mono ?_
                rintro e w4 ⟨rfl, b4⟩
                have s4 := bnext s3 b4
                clear HSI
                have hnu := numbers_any at_ ct T w4 (hTb.below s4) (by have := HTL.out; omega)
                rw [HTL.out] at hnu
                have HNU := hid hnu; clear hnu
                go_wp2_with fail
                refine HNU.out.mono ?_
                rintro e w5 ⟨v5, rfl, ho5, b5⟩
                obtain ⟨a5, c5, rfl, h5, _, _⟩ := ho5.reps
                rw [HTL.out]
                have s5 := bnext s4 b5
                clear HNU ho5
                go_wp2_with fail
                refine (H3.out a5 ad c5 cd w5 h5 (hD3.below (bnext b4 b5))).mono ?_
                rintro e w6 ⟨av, cv, an2, cn2, rfl, hV6, _, b6⟩
                have s6 := bnext s5 b6
                go_wp2_with fail
                refine (numbers_any a cap l w6 (hSb.below s6) (by omega)).mono ?_
                rintro e w7 ⟨v7, rfl, ho7, b7⟩
                obtain ⟨a7, c7, rfl, h7, _, _⟩ := ho7.reps
                have s7 := bnext s6 b7
                go_wp2_with fail
                refine (H4.out a7 c7 w7 h7).mono ?_
                intro e w8 hret
                obtain ⟨ax, cx, rfl, hX8, _, b8⟩ := hret.out
                rw [HXL.out]
                have s8 := bnext s7 b8
                clear hret ho7
                go_wp2_with fail
                refine (SameInts_any av a cv cap l l w8 (hV6.below (bnext b7 b8)) (hSb.below s8) (by omega)).mono ?_
                rw [decide_eq_true rfl]
                rintro e w9 ⟨rfl, b9⟩
                have s9 := bnext s8 b9
                have hnx := numbers_any ax cx XL w9 (hX8.below b9) (by have := HXL.out; omega)
                rw [HXL.out] at hnx
                have HNX := hid hnx; clear hnx
                go_wp2_with fail
                refine HNX.out.mono ?_
                rintro e w10 ⟨v10, rfl, ho10, b10⟩
                obtain ⟨a10, c10, rfl, h10, _, _⟩ := ho10.reps
                rw [HXL.out]
                have s10 := bnext s9 b10
                clear HNX ho10
                go_wp2_with fail
                refine (H5.out a10 am c10 cm w10 h10 (hTr.below s10)).mono ?_
                rintro e w11 ⟨ay, cy, an3, cn3, rfl, hY11, _, b11⟩
                have s11 := bnext s10 b11
                have hnt := numbers_any at_ ct T w11 (hTb.below s11) (by have := HTL.out; omega)
                rw [HTL.out] at hnt
                have HNT := hid hnt; clear hnt
                go_wp2_with fail
                refine HNT.out.mono ?_
                rintro e w12 ⟨v12, rfl, ho12, b12⟩
                obtain ⟨a12, c12, rfl, h12, _, _⟩ := ho12.reps
                rw [HTL.out]
                have s12 := bnext s11 b12
                clear HNT ho12
                go_wp2_with fail
                refine (H6.out a12 c12 w12 h12).mono ?_
                intro e w13 hret
                obtain ⟨az, cz, rfl, hZ13, _, b13⟩ := hret.out
                rw [HYL.out]
                have s13 := bnext s12 b13
                clear hret
                have hsy := SameInts_any ay az cy cz YL YL w13 (hY11.below (bnext b12 b13)) hZ13 (by have := HYL.out; omega)
                rw [decide_eq_true rfl, HYL.out] at hsy
                have HSY := hid hsy; clear hsy
                go_wp2_with fail
                refine HSY.out.mono ?_
                rintro e w14 ⟨rfl, b14⟩
                go_wp2_with fail
                refine (awake_any _).mono ?_
                rintro e w15 ⟨rfl, b15⟩
                go_wp2_with fail
                go_ret
                exact ⟨rfl, bnext t3 (bnext hw4 (bnext s13 (bnext b14 b15)))⟩
          · intro x c w7 cnt7 hwx hwc hlx hat hrg7 hlt7 hg7 hs7 hen
            have hbz := hbq.size
            have hb7 := hbq.grown hg7 hbq.size (fun j hj => by cases hj; exact Nat.le_refl _)
            have hC7 := (hA.mono hb7).cnt 0 rfl
            have ix : InI x := by
              have := hwx
              simp [Lit.wf, IntKind.min, IntKind.max, IntKind.bits, IntKind.signed] at this
              unfold InI; omega
            have hcx : ((T.count x : Int) != c) = false := by
              have h1 := HDD.out.at0 x
              rw [hat] at h1
              simp only [DataW.lit.injEq, Lit.int.injEq, true_and] at h1
              rw [HCN.out x, h1]; simp
            clear hat hlx hwx hwc hs7
            go_wp2_with (with_reducible refine wpList_lookC (by with_unfolding_all rfl) (by with_unfolding_all rfl) hC7 ix (by with_unfolding_all rfl) ?_)
            go_roundw
            case rel => exact ⟨_, _, hrg7, hb7⟩
            case measure => rw [hrg7.left_eq, hrg.left_eq]; exact hlt7
  · have hb : (q1 != 0) = true := by simpa using hz
    clear hI hq1 hz
    go_enter Tryz.func5, Tryz.ntmps5
    go_wp2_with fail
    refine (HCS.out w hS).mono ?_
    rintro e w0 ⟨rfl, b0⟩
    go_wp2_with fail
    refine (awake_any _).mono ?_
    rintro e w' ⟨rfl, hb⟩
    go_wp2_with fail
    go_ret
    exact ⟨rfl, bnext b0 hb⟩
end Go.Proofs.YtmomeggnegcheaaGreatDoor
