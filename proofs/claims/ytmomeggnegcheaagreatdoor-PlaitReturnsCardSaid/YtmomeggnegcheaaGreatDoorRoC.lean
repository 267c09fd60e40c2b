/- Contract of the reference: Spans. Conditions: slices readable, the stand without an error, all moves legal, sizes as stated. -/
import Derived.Test.YtmomeggnegcheaaGreatDoorRoB
import Derived.Test.YtmomeggnegcheaaGreatDoorSpA
set_option linter.all false
namespace Go.Proofs.YtmomeggnegcheaaGreatDoor
open Go.RowKit
set_option maxHeartbeats 2000000
set_option maxRecDepth 100000

section
variable {P : Program} {ops : Array Oper} {rest : List Oper} {a : Act} {Qa : Act → Prop} {α : Type} {c : α → Value} {sz bytes : Nat} {t e t2 e2 : TypeId} {z : Value} {ad : Option Addr} {cap : Nat} {l : List α} {k : Int} {w : World}
  {d1 d2 d3 : Tmp} {ty1 ty2 ty3 : TypeId} {p1 p2 p3 : String} {s x : Operand} {af1 af2 af3 : Array Edge} {j : Nat}
/-- one field of an element, read in a quiet region. -/
theorem wpQD_fld (d : α) (v : Value) (E : ETy P t e z sz bytes) (hF : Flat P e2)
   (hf : ∀ (b o : Nat) (w' : World), (Instr.fieldAt t2 (.pointer (some ⟨b, o, none⟩)) j).run P w' = .ok (.pointer (some ⟨b, o + j, none⟩)) w')
   (hs : a.eval s = .slice ad l.length cap) (hx : a.eval x = .int .i64 k) (hR : Reps c sz w ad cap l) (h0 : 0 ≤ k) (hlt : k < l.length)
   (hv : (c (atD d l k)).cells.toList[j]? = some v) (hd : ∀ p, (a.put (some d1) p).eval (.tmp d1) = p) (hd2 : ∀ p q, ((a.put (some d1) p).put (some d2) q).eval (.tmp d2) = q)
   (hK : ∀ p q, wpQuiet P ops (fun w' => ∃ n, w' = w.drewN n) Qa rest (((a.put (some d1) p).put (some d2) q).put (some d3) v)) :
   wpQuiet P ops (fun w' => ∃ n, w' = w.drewN n) Qa (⟨some d1, .indexAddr t s x, ty1, p1, af1, none⟩ :: ⟨some d2, .fieldAddr t2 (.tmp d1) j, ty2, p2, af2, none⟩ :: ⟨some d3, .load e2 (.tmp d2), ty3, p3, af3, none⟩ :: rest) a := by
  have hkl : k.toNat < l.length := by omega
  obtain ⟨b, o, rfl, hcs⟩ := hR.cells E.pos d k.toNat hkl
  have hcell := hcs j v hv
  have hadd : (⟨b, o, none⟩ : Addr).add (k.toNat * sz) = ⟨b, o + k.toNat * sz, none⟩ := Addr.add_z ..
  refine wpQ_in (.pointer (some ((⟨b, o, none⟩ : Addr).add (k.toNat * sz)))) rfl (fun w' hw' => ?_) (wpQ_in (.pointer (some ⟨b, o + k.toNat * sz + j, none⟩)) rfl (fun w' hw' => ?_) (wpQ_in v rfl (fun w' hw' => ?_) (hK _ _)))
  · have h1 := run_indexAt_sl (P := P) (a := ⟨b, o, none⟩) (cap := cap) w' E h0 hlt
    simp [execOp, hs, hx, h1, Result.andThen]
  · have h1 := hf b (o + k.toNat * sz) w'
    rw [← hadd] at h1
    simp only [execOp, hd]
    rw [hadd] at h1 ⊢
    simp [h1, Result.andThen]
  · have h2 := run_loadAt_cell (P := P) w' (a := (⟨b, o + k.toNat * sz + j, none⟩ : Addr)) (v := v) hF (by
      have hb := below_drewN hw'
      exact (hb.cell (World.block_lt_of_cell? w _ hcell)).trans hcell)
    simp [execOp, hd2, h2, Result.andThen]
theorem wpList_fld {Q : Exit → Act → World → Prop} (d : α) (v : Value) (E : ETy P t e z sz bytes) (hF : Flat P e2)
   (hf : ∀ (b o : Nat) (w' : World), (Instr.fieldAt t2 (.pointer (some ⟨b, o, none⟩)) j).run P w' = .ok (.pointer (some ⟨b, o + j, none⟩)) w')
   (hs : a.eval s = .slice ad l.length cap) (hx : a.eval x = .int .i64 k) (hR : Reps c sz w ad cap l) (h0 : 0 ≤ k) (hlt : k < l.length)
   (hv : (c (atD d l k)).cells.toList[j]? = some v) (hd : ∀ p, (a.put (some d1) p).eval (.tmp d1) = p) (hd2 : ∀ p q, ((a.put (some d1) p).put (some d2) q).eval (.tmp d2) = q)
   (hK : ∀ p q, wpList P ops Q rest (((a.put (some d1) p).put (some d2) q).put (some d3) v) w) :
   wpList P ops Q (⟨some d1, .indexAddr t s x, ty1, p1, af1, none⟩ :: ⟨some d2, .fieldAddr t2 (.tmp d1) j, ty2, p2, af2, none⟩ :: ⟨some d3, .load e2 (.tmp d2), ty3, p3, af3, none⟩ :: rest) a w := by
  have hkl : k.toNat < l.length := by omega
  obtain ⟨b, o, rfl, hcs⟩ := hR.cells E.pos d k.toNat hkl
  have hcell := hcs j v hv
  have hadd : (⟨b, o, none⟩ : Addr).add (k.toNat * sz) = ⟨b, o + k.toNat * sz, none⟩ := Addr.add_z ..
  have h1 := run_indexAt_sl (P := P) (a := ⟨b, o, none⟩) (cap := cap) w E h0 hlt
  have h2 := hf b (o + k.toNat * sz) w
  have h3 := run_loadAt_cell (P := P) w (a := (⟨b, o + k.toNat * sz + j, none⟩ : Addr)) (v := v) hF hcell
  rw [hadd] at h1
  refine wpList_step fun K hK' => ?_
  rw [if_pos (by simp [Region.wanted])]
  unfold Oper.wp
  simp only [execOp, hs, hx]
  simp [h1, Result.andThen]
  refine hK' _ _ (wpList_step fun K2 hK2 => ?_)
  rw [if_pos (by simp [Region.wanted])]
  unfold Oper.wp
  simp only [execOp, hd]
  simp [h2, Result.andThen]
  refine hK2 _ _ (wpList_step fun K3 hK3 => ?_)
  rw [if_pos (by simp [Region.wanted])]
  unfold Oper.wp
  simp only [execOp, hd2]
  simp [h3, Result.andThen]
  exact hK3 _ _ (hK _ _)
end
theorem fld_rmove0 (b o : Nat) (w' : World) : (Instr.fieldAt 52 (.pointer (some ⟨b, o, none⟩)) 0).run Tryz.prog w' = .ok (.pointer (some ⟨b, o + 0, none⟩)) w' := by
  simp [go_sem, Tryz.underlying52]
theorem fld_rmove1 (b o : Nat) (w' : World) : (Instr.fieldAt 52 (.pointer (some ⟨b, o, none⟩)) 1).run Tryz.prog w' = .ok (.pointer (some ⟨b, o + 1, none⟩)) w' := by
  simp [go_sem, Tryz.underlying52]

/-- the inner loop's condition and place. -/
theorem sp_far {n : Nat} (f t : Int) (hn : 0 < n) (hf0 : 0 ≤ f) (hf1 : f < n) (ht0 : 0 ≤ t) (ht1 : t < n) : (t - f + n).tmod n = spFar n f t := by
  rw [Int.tmod_eq_emod_of_nonneg (by omega)]
  unfold spFar
  rw [Int.add_emod_right]
theorem spFar_rng {n : Nat} (f t : Int) (hn : 0 < n) : 0 ≤ spFar n f t ∧ spFar n f t < n := ⟨Int.emod_nonneg _ (by omega), Int.emod_lt_of_pos _ (by omega)⟩
theorem spLen_rng {n : Nat} (f t : Int) (hn : 0 < n) : 0 ≤ spLen n f t ∧ spLen n f t < n := by
  have := spFar_rng f t hn
  unfold spLen; split <;> omega
/-- the spans so far, all moves being legal. -/
theorem rSpans_any (a a2 : Option Addr) (cap cap2 : Nat) (l : List Int) (ms : List (Int × Int)) (w : World) (hS : Ints w a cap l) (hM : Pairs w a2 cap2 ms) (hl0 : 0 < l.length) (hl : l.length ≤ 64) (hms : ms.length ≤ 1000) (hok : (spansGo l ms []).2 = true) :
    Calls Tryz.prog 19 #[.slice a l.length cap, .slice a2 ms.length cap2] w fun r w' => ∃ v, r = .returned v ∧ OwnI w.heap.size w' v (spansGo l ms []).1 ∧ Below w.heap.size w w' := by
  have hcap := hS.le
  have hm := hS.max
  have hcap2 := hM.le
  have hm2 := hM.max
  have HOK := hid hok; clear hok
  have HL64 := hid hl
  go_enter Tryz.func19, Tryz.ntmps19
  go_wp2_with fail
  go_loopw [0, 5, 7, 8, 9, 10, 11, 12] (fun v0 v5 i _ _ _ _ _ wr => ∃ (k : Nat) (s acc : List Int) (a0 : Option Addr) (cap0 : Nat), k ≤ ms.length ∧ i = .int .i64 k ∧ v0 = .slice a0 l.length cap0 ∧ s.length = l.length ∧ acc.length = k ∧
      SL w.heap.size w wr [pSrc cInt 1 3 w (.slice a0 l.length cap0) s, pOwn cInt 1 3 v5 acc] ∧ spansGo s (ms.drop k) acc = spansGo l ms []) (fun _ _ i _ _ _ _ _ _ => ms.length - (intOf i).toNat)
  case atStart => exact ⟨0, l, [], a, cap, by omega, rfl, rfl, rfl, rfl, ((SL.nil w).nilS (α := Int) (e := 3) cIntS).newSrc hS, rfl⟩
  case round =>
    obtain ⟨k, s, acc, a0, cap0, hk, rfl, rfl, hsl, hal, hSL, hgo⟩ := hrel
    by_cases hlt : k < ms.length
    · have hstep := spansGo_step s ms k acc hlt
      rw [hgo] at hstep
      have hleg : legalN s (atD (0, 0) ms k).1 (atD (0, 0) ms k).2 = 0 := by
        have h := HOK.out
        rw [hstep] at h
        by_cases h1 : legalN s (atD (0, 0) ms k).1 (atD (0, 0) ms k).2 = 0
        · exact h1
        · rw [if_neg h1] at h; cases h
      rw [if_pos hleg] at hstep
      obtain ⟨hf0, hf1, ht0, ht1, _, _⟩ := legalN_zero hleg
      obtain ⟨F, hF⟩ : ∃ F, F = (atD (0, 0) ms k).1 := ⟨_, rfl⟩
      obtain ⟨T, hT⟩ : ∃ T, T = (atD (0, 0) ms k).2 := ⟨_, rfl⟩
      have hcell : cPair (atD (0, 0) ms k) = .agg #[.int .i64 F, .int .i64 T] := by rw [hF, hT]; rfl
      have hv0 : (cPair (atD (0, 0) ms k)).cells.toList[0]? = some (.int .i64 F) := by rw [hcell]; rfl
      have hv1 : (cPair (atD (0, 0) ms k)).cells.toList[1]? = some (.int .i64 T) := by rw [hcell]; rfl
      rw [← hF, ← hT] at hstep
      rw [← hF] at hf0 hf1
      rw [← hT] at ht0 ht1
      have hsl' := hsl
      rw [hsl] at hf1 ht1 hstep
      obtain ⟨N, hN⟩ : ∃ N, N = l.length := ⟨_, rfl⟩
      have hMr := hM.below hSL.b
      have hfar := sp_far F T hl0 hf0 hf1 ht0 ht1
      have hfr := spFar_rng F T hl0
      obtain ⟨U, hU⟩ : ∃ U, U = spFar l.length F T := ⟨_, rfl⟩
      rw [← hU] at hfar hfr
      have hw1 : IntKind.i64.wrap (T - F) = T - F := IntWalk.i64_in _ (by omega)
      have hw2 : IntKind.i64.wrap (T - F + l.length) = T - F + l.length := IntWalk.i64_in _ (by omega)
      have hw3 : IntKind.i64.wrap U = U := IntWalk.i64_in _ (by omega)
      have hnz : ¬ l.length = 0 := by omega
      have hw4 : IntKind.i64.wrap ((l.length : Int) - U) = (l.length : Int) - U := IntWalk.i64_in _ (by omega)
      have HST := hid hstep; have HGO := hid hgo; have HSLN := hid hsl; have HAL := hid hal; have HF := hid hF; have HT := hid hT; have HCE := hid hcell; have HU := hid hU; have HLG := hid hleg
      clear hstep hgo hsl hal hF hT hcell hU hsl' hN hleg
      go_wp2_with fail
      refine wp_region_quiet_lit (by kernel_rfl) (by kernel_rfl) ?_
      repeat (first | (with_reducible refine wpQD_fld (0, 0) (.int .i64 T) E_rmoves F_int fld_rmove1 (by with_unfolding_all rfl) (by with_unfolding_all rfl) hMr (by omega) (by omega) hv1 (fun _ => by with_unfolding_all rfl) (fun _ _ => by with_unfolding_all rfl) (fun _ _ => ?_); (try simp only [Act.put, List.setIfInBounds_toArray, List.set_cons_zero, List.set_cons_succ])) | (with_reducible refine wpQD_fld (0, 0) (.int .i64 F) E_rmoves F_int fld_rmove0 (by with_unfolding_all rfl) (by with_unfolding_all rfl) hMr (by omega) (by omega) hv0 (fun _ => by with_unfolding_all rfl) (fun _ _ => by with_unfolding_all rfl) (fun _ _ => ?_); (try simp only [Act.put, List.setIfInBounds_toArray, List.set_cons_zero, List.set_cons_succ])) | quiet_step (fail))
      refine wpQuiet_nil ?_
      intro w5 hb5
      replace hb5 := below_drewN hb5
      have hSL5 := hSL.mono hb5
      have hM5 := hM.below hSL5.b
      clear hSL hMr
      by_cases hb : (l.length : Int) - U < U
      · have hA : spFrom l.length F T = T := by unfold spFrom; rw [← HU.out, if_pos hb]
        have hLn : (l.length : Int) - U = spLen l.length F T := by unfold spLen; rw [← HU.out, if_pos hb]
        have HA := hid hA; have HLN := hid hLn; clear hA hLn
        go_wp2_with (first | (with_reducible refine wpList_fld (0, 0) (.int .i64 T) E_rmoves F_int fld_rmove1 (by with_unfolding_all rfl) (by with_unfolding_all rfl) hM5 (by omega) (by omega) hv1 (fun _ => by with_unfolding_all rfl) (fun _ _ => by with_unfolding_all rfl) (fun _ _ => ?_); (try simp only [Act.put, List.setIfInBounds_toArray, List.set_cons_zero, List.set_cons_succ])) | (with_reducible refine wpList_fld (0, 0) (.int .i64 F) E_rmoves F_int fld_rmove0 (by with_unfolding_all rfl) (by with_unfolding_all rfl) hM5 (by omega) (by omega) hv0 (fun _ => by with_unfolding_all rfl) (fun _ _ => by with_unfolding_all rfl) (fun _ _ => ?_); (try simp only [Act.put, List.setIfInBounds_toArray, List.set_cons_zero, List.set_cons_succ])))
        have hlr : 0 ≤ ((l.length : Int) - U) ∧ ((l.length : Int) - U) < l.length := by omega
        have hN0 : ¬ l.length = 0 := by omega
        go_loopw [11, 12] (fun c i wq => ∃ j : Nat, c = .int .i64 (cntOf s (spUpto l.length hl0 F T j)) ∧ i = .int .i64 ((j : Int) + 1) ∧ (j = 0 ∨ (j : Int) + 1 ≤ ((l.length : Int) - U)) ∧ SL w.heap.size w wq [pSrc cInt 1 3 w (.slice a0 l.length cap0) s, pOwn cInt 1 3 u5 acc]) (fun _ i _ => l.length - (intOf i).toNat)
        case atStart => exact ⟨0, rfl, rfl, .inl rfl, hSL5⟩
        case round =>
          obtain ⟨j, rfl, rfl, hj, hq⟩ := hrel
          have hcb := cntOf_bd s (spUpto l.length hl0 F T j)
          rw [spUpto_len] at hcb
          by_cases hjl : (j : Int) + 1 < ((l.length : Int) - U)
          · have hj64 : (j : Int) ≤ 64 := by omega
            obtain ⟨X, hX⟩ : ∃ X, X = (T + ((j : Int) + 1)) % (l.length : Int) := ⟨_, rfl⟩
            have htm : (T + ((j : Int) + 1)).tmod l.length = X := by rw [hX, Int.tmod_eq_emod_of_nonneg (by omega)]
            have hx0 : 0 ≤ X := by rw [hX]; exact Int.emod_nonneg _ (by omega)
            have hx1 : X < l.length := by rw [hX]; exact Int.emod_lt_of_pos _ (by omega)
            have hsp : (spAt l.length hl0 F T j).1 = X := by show (spFrom l.length F T + ((j : Int) + 1)) % (l.length : Int) = X; rw [HA.out, hX]
            have hcn : cntOf s (spUpto l.length hl0 F T (j + 1)) = cntOf s (spUpto l.length hl0 F T j) + nz (atD 0 s X) := by rw [spUpto_succ, cntOf_snoc, hsp]
            have hwx : IntKind.i64.wrap X = X := IntWalk.i64_in _ (by omega)
            have hwa : IntKind.i64.wrap (T + ((j : Int) + 1)) = T + ((j : Int) + 1) := IntWalk.i64_in _ (by omega)
            obtain ⟨a', cap', e', hRs⟩ := hq.src 0 rfl
            have HCN := hid hcn; clear hcn hsp hX hj
            rw [HSLN.out] at e'
            cases e'
            by_cases hz : atD 0 s X = 0
            · have hzb : (atD 0 s X != 0) = false := by simp [hz]
              have HZ := hid hz; clear hz
              go_wp2_with (with_reducible refine wpList_idxN _ 0 E_ints F_int cInt1 (by with_unfolding_all rfl) (by with_unfolding_all rfl) (hRs) (HSLN.out) (by first | omega | (simp; done)) (by first | omega | (simp; done)) (fun _ => by with_unfolding_all rfl) (fun _ => ?_))
              exact ⟨⟨j + 1, by rw [HCN.out, HZ.out]; simp [nz], by go_num, .inr (by omega), hq⟩, by simp [intOf]; omega⟩
            · have hzb : (atD 0 s X != 0) = true := by simpa using hz
              have HZ := hid hz; clear hz
              have hwc : IntKind.i64.wrap (cntOf s (spUpto l.length hl0 F T j) + 1) = cntOf s (spUpto l.length hl0 F T j) + 1 := IntWalk.i64_in _ (by omega)
              go_wp2_with (with_reducible refine wpList_idxN _ 0 E_ints F_int cInt1 (by with_unfolding_all rfl) (by with_unfolding_all rfl) (hRs) (HSLN.out) (by first | omega | (simp; done)) (by first | omega | (simp; done)) (fun _ => by with_unfolding_all rfl) (fun _ => ?_))
              exact ⟨⟨j + 1, by rw [HCN.out]; simp [nz, HZ.out], by go_num, .inr (by omega), hq⟩, by simp [intOf]; omega⟩
          · have hjc : j = spCnt l.length F T := by unfold spCnt; rw [← HLN.out]; omega
            have hsn : cntOf s (spUpto l.length hl0 F T j) = spanN s l.length F T := by unfold spanN; rw [dif_pos hl0, hjc]
            obtain ⟨C, hC⟩ : ∃ C, C = cntOf s (spUpto l.length hl0 F T j) := ⟨_, rfl⟩
            rw [← hC] at hsn ⊢
            have HSN := hid hsn
            clear hsn hC hjc hcb
            have hac : acc.length ≤ 1000 := by rw [HAL.out]; omega
            go_wp2_with (first | (((with_reducible refine wpList_pushL (y := C) 1 E_ints (by with_unfolding_all rfl) (by with_unfolding_all rfl) (hq) (by with_unfolding_all rfl) cIntO ⟨rfl, rfl⟩ (by first | with_unfolding_all rfl | simp) (by with_unfolding_all rfl) (by first | omega | (simp; omega)) (by first | omega | (simp; omega)) ?_); intro v3 w3 hS3); have hM3 := hM.below hS3.b) | (with_reducible refine wpList_idxS _ (0, 0) E_rmoves F_rmove cPair1 (by with_unfolding_all rfl) (by with_unfolding_all rfl) (hM3) (by first | omega | (simp; done)) (by first | omega | (simp; done)) (fun _ => by with_unfolding_all rfl) (fun _ => ?_)))
            rw [← HF.out, ← HT.out]
            obtain ⟨a', cap', e', hRs⟩ := hS3.src 0 rfl
            rw [HSLN.out] at e'
            cases e'
            have hc := rNext_any F T a0 cap0 s w3 hRs (by rw [HSLN.out]; omega) hf0 (by rw [HSLN.out]; exact hf1) ht0 (by rw [HSLN.out]; exact ht1)
            rw [HSLN.out] at hc
            refine hc.mono ?_
            clear hc
            rintro e w4 ⟨v4, rfl, ho4, hb4⟩
            have hQ := hS3.call (SL.ofOwn ho4 hb4)
            obtain ⟨a6, cap6, rfl, _⟩ := hQ.slice 0 rfl
            have hR2 := hQ.weaken 0 rfl (pSrc cInt 1 3 w (.slice a6 (nextL s F T).length cap6) (nextL s F T)) (fun b hb => .inr hb)
            have hR3 := hR2.pick [0, 2] (by decide) [_, _] rfl
            have hnl : (nextL s F T).length = l.length := by rw [nextL_len, HSLN.out]
            rw [hnl] at hR3 ⊢
            have HNL := hid hnl; clear hnl
            go_wp2_with fail
            exact ⟨⟨k + 1, nextL s F T, acc ++ [C], a6, cap6, by omega, by go_num, rfl, HNL.out, by rw [List.length_append, HAL.out]; rfl, hR3, by rw [HSN.out]; exact HST.out.symm⟩, by simp [intOf]; omega⟩
      · have hA : spFrom l.length F T = F := by unfold spFrom; rw [← HU.out, if_neg hb]
        have hLn : U = spLen l.length F T := by unfold spLen; rw [← HU.out, if_neg hb]
        have HA := hid hA; have HLN := hid hLn; clear hA hLn
        go_wp2_with (first | (with_reducible refine wpList_fld (0, 0) (.int .i64 T) E_rmoves F_int fld_rmove1 (by with_unfolding_all rfl) (by with_unfolding_all rfl) hM5 (by omega) (by omega) hv1 (fun _ => by with_unfolding_all rfl) (fun _ _ => by with_unfolding_all rfl) (fun _ _ => ?_); (try simp only [Act.put, List.setIfInBounds_toArray, List.set_cons_zero, List.set_cons_succ])) | (with_reducible refine wpList_fld (0, 0) (.int .i64 F) E_rmoves F_int fld_rmove0 (by with_unfolding_all rfl) (by with_unfolding_all rfl) hM5 (by omega) (by omega) hv0 (fun _ => by with_unfolding_all rfl) (fun _ _ => by with_unfolding_all rfl) (fun _ _ => ?_); (try simp only [Act.put, List.setIfInBounds_toArray, List.set_cons_zero, List.set_cons_succ])))
        have hlr : 0 ≤ U ∧ U < l.length := by omega
        have hN0 : ¬ l.length = 0 := by omega
        go_loopw [11, 12] (fun c i wq => ∃ j : Nat, c = .int .i64 (cntOf s (spUpto l.length hl0 F T j)) ∧ i = .int .i64 ((j : Int) + 1) ∧ (j = 0 ∨ (j : Int) + 1 ≤ U) ∧ SL w.heap.size w wq [pSrc cInt 1 3 w (.slice a0 l.length cap0) s, pOwn cInt 1 3 u5 acc]) (fun _ i _ => l.length - (intOf i).toNat)
        case atStart => exact ⟨0, rfl, rfl, .inl rfl, hSL5⟩
        case round =>
          obtain ⟨j, rfl, rfl, hj, hq⟩ := hrel
          have hcb := cntOf_bd s (spUpto l.length hl0 F T j)
          rw [spUpto_len] at hcb
          by_cases hjl : (j : Int) + 1 < U
          · have hj64 : (j : Int) ≤ 64 := by omega
            obtain ⟨X, hX⟩ : ∃ X, X = (F + ((j : Int) + 1)) % (l.length : Int) := ⟨_, rfl⟩
            have htm : (F + ((j : Int) + 1)).tmod l.length = X := by rw [hX, Int.tmod_eq_emod_of_nonneg (by omega)]
            have hx0 : 0 ≤ X := by rw [hX]; exact Int.emod_nonneg _ (by omega)
            have hx1 : X < l.length := by rw [hX]; exact Int.emod_lt_of_pos _ (by omega)
            have hsp : (spAt l.length hl0 F T j).1 = X := by show (spFrom l.length F T + ((j : Int) + 1)) % (l.length : Int) = X; rw [HA.out, hX]
            have hcn : cntOf s (spUpto l.length hl0 F T (j + 1)) = cntOf s (spUpto l.length hl0 F T j) + nz (atD 0 s X) := by rw [spUpto_succ, cntOf_snoc, hsp]
            have hwx : IntKind.i64.wrap X = X := IntWalk.i64_in _ (by omega)
            have hwa : IntKind.i64.wrap (F + ((j : Int) + 1)) = F + ((j : Int) + 1) := IntWalk.i64_in _ (by omega)
            obtain ⟨a', cap', e', hRs⟩ := hq.src 0 rfl
            have HCN := hid hcn; clear hcn hsp hX hj
            rw [HSLN.out] at e'
            cases e'
            by_cases hz : atD 0 s X = 0
            · have hzb : (atD 0 s X != 0) = false := by simp [hz]
              have HZ := hid hz; clear hz
              go_wp2_with (with_reducible refine wpList_idxN _ 0 E_ints F_int cInt1 (by with_unfolding_all rfl) (by with_unfolding_all rfl) (hRs) (HSLN.out) (by first | omega | (simp; done)) (by first | omega | (simp; done)) (fun _ => by with_unfolding_all rfl) (fun _ => ?_))
              exact ⟨⟨j + 1, by rw [HCN.out, HZ.out]; simp [nz], by go_num, .inr (by omega), hq⟩, by simp [intOf]; omega⟩
            · have hzb : (atD 0 s X != 0) = true := by simpa using hz
              have HZ := hid hz; clear hz
              have hwc : IntKind.i64.wrap (cntOf s (spUpto l.length hl0 F T j) + 1) = cntOf s (spUpto l.length hl0 F T j) + 1 := IntWalk.i64_in _ (by omega)
              go_wp2_with (with_reducible refine wpList_idxN _ 0 E_ints F_int cInt1 (by with_unfolding_all rfl) (by with_unfolding_all rfl) (hRs) (HSLN.out) (by first | omega | (simp; done)) (by first | omega | (simp; done)) (fun _ => by with_unfolding_all rfl) (fun _ => ?_))
              exact ⟨⟨j + 1, by rw [HCN.out]; simp [nz, HZ.out], by go_num, .inr (by omega), hq⟩, by simp [intOf]; omega⟩
          · have hjc : j = spCnt l.length F T := by unfold spCnt; rw [← HLN.out]; omega
            have hsn : cntOf s (spUpto l.length hl0 F T j) = spanN s l.length F T := by unfold spanN; rw [dif_pos hl0, hjc]
            obtain ⟨C, hC⟩ : ∃ C, C = cntOf s (spUpto l.length hl0 F T j) := ⟨_, rfl⟩
            rw [← hC] at hsn ⊢
            have HSN := hid hsn
            clear hsn hC hjc hcb
            have hac : acc.length ≤ 1000 := by rw [HAL.out]; omega
            go_wp2_with (first | (((with_reducible refine wpList_pushL (y := C) 1 E_ints (by with_unfolding_all rfl) (by with_unfolding_all rfl) (hq) (by with_unfolding_all rfl) cIntO ⟨rfl, rfl⟩ (by first | with_unfolding_all rfl | simp) (by with_unfolding_all rfl) (by first | omega | (simp; omega)) (by first | omega | (simp; omega)) ?_); intro v3 w3 hS3); have hM3 := hM.below hS3.b) | (with_reducible refine wpList_idxS _ (0, 0) E_rmoves F_rmove cPair1 (by with_unfolding_all rfl) (by with_unfolding_all rfl) (hM3) (by first | omega | (simp; done)) (by first | omega | (simp; done)) (fun _ => by with_unfolding_all rfl) (fun _ => ?_)))
            rw [← HF.out, ← HT.out]
            obtain ⟨a', cap', e', hRs⟩ := hS3.src 0 rfl
            rw [HSLN.out] at e'
            cases e'
            have hc := rNext_any F T a0 cap0 s w3 hRs (by rw [HSLN.out]; omega) hf0 (by rw [HSLN.out]; exact hf1) ht0 (by rw [HSLN.out]; exact ht1)
            rw [HSLN.out] at hc
            refine hc.mono ?_
            clear hc
            rintro e w4 ⟨v4, rfl, ho4, hb4⟩
            have hQ := hS3.call (SL.ofOwn ho4 hb4)
            obtain ⟨a6, cap6, rfl, _⟩ := hQ.slice 0 rfl
            have hR2 := hQ.weaken 0 rfl (pSrc cInt 1 3 w (.slice a6 (nextL s F T).length cap6) (nextL s F T)) (fun b hb => .inr hb)
            have hR3 := hR2.pick [0, 2] (by decide) [_, _] rfl
            have hnl : (nextL s F T).length = l.length := by rw [nextL_len, HSLN.out]
            rw [hnl] at hR3 ⊢
            have HNL := hid hnl; clear hnl
            go_wp2_with fail
            exact ⟨⟨k + 1, nextL s F T, acc ++ [C], a6, cap6, by omega, by go_num, rfl, HNL.out, by rw [List.length_append, HAL.out]; rfl, hR3, by rw [HSN.out]; exact HST.out.symm⟩, by simp [intOf]; omega⟩
    · have : k = ms.length := by omega
      subst this
      rw [List.drop_length, spansGo] at hgo
      have hfin : acc = (spansGo l ms []).1 := by rw [← hgo]
      have HFI := hid hfin; clear hfin hgo HOK
      go_wp2_with fail
      go_ret
      exact ⟨_, rfl, by rw [← HFI.out]; exact hSL.own 1 rfl, hSL.b⟩
end Go.Proofs.YtmomeggnegcheaaGreatDoor
