/- Contract of the reference: Passes. Conditions: the slice can be read, letters small. -/
import Derived.Test.YtogbclcnmogaeaaGreatDoorRE
import Derived.Test.YtogbclcnmogaeaaGreatDoorRF
import Derived.Test.YtogbclcnmogaeaaGreatDoorQt1
import Derived.Test.YtogbclcnmogaeaaGreatDoorRl3
set_option linter.all false
namespace Go.Proofs.YtogbclcnmogaeaaGreatDoor
open Go.RowKit
set_option maxHeartbeats 2000000
set_option maxRecDepth 100000

section
variable {P : Program} {ops : Array Oper} {rest : List Oper} {a : Act} {Qa : Act → Prop} {α : Type} {c : α → Value} {sz bytes : Nat} {t e : TypeId} {z : Value} {ad : Option Addr} {cap : Nat} {l : List α} {k : Int} {w : World}
  {d1 d2 : Tmp} {ty1 ty2 : TypeId} {p1 p2 : String} {s x : Operand} {af1 af2 : Array Edge}
theorem wpB_idx (d : α) (E : ETy P t e z sz bytes) (hF : Flat P e) (hc : ∀ x, (c x).cells = #[c x])
   (hs : a.eval s = .slice ad l.length cap) (hx : a.eval x = .int .i64 k) (hR : Reps c sz w ad cap l) (h0 : 0 ≤ k) (hlt : k < l.length) (hd : ∀ p, (a.put (some d1) p).eval (.tmp d1) = p)
   (hK : ∀ p, wpQuiet P ops (Below w.heap.size w) Qa rest ((a.put (some d1) p).put (some d2) (c (atD d l k)))) :
   wpQuiet P ops (Below w.heap.size w) Qa (⟨some d1, .indexAddr t s x, ty1, p1, af1, none⟩ :: ⟨some d2, .load e (.tmp d1), ty2, p2, af2, none⟩ :: rest) a := by
  have hkl : k.toNat < l.length := by omega
  obtain ⟨b, o, rfl, hcs⟩ := hR.cells E.pos d k.toNat hkl
  have hcell := hcs 0 (c (atD d l k)) (by rw [show l.getD k.toNat d = atD d l k from rfl, hc]; rfl)
  refine wpQ_in (.pointer (some ((⟨b, o, none⟩ : Addr).add (k.toNat * sz)))) rfl (fun w' hw' => ?_) (wpQ_in (c (atD d l k)) rfl (fun w' hw' => ?_) (hK _))
  · have h1 := run_indexAt_sl (P := P) (a := ⟨b, o, none⟩) (cap := cap) w' E h0 hlt
    simp [execOp, hs, hx, h1, Result.andThen]
  · have h2 := run_loadAt_cell (P := P) w' (a := (⟨b, o, none⟩ : Addr).add (k.toNat * sz)) (v := c (atD d l k)) hF (by
      rw [Addr.add_z]
      exact (hw'.cell (World.block_lt_of_cell? w _ hcell)).trans hcell)
    simp [execOp, hd, h2, Result.andThen]
end

theorem rPasses_any (a : Option Addr) (cap : Nat) (l : List Int) (w : World) (hS : Ints w a cap l) (h200 : l.length ≤ 200) (hall : ∀ x ∈ l, x ≠ 0 ∧ -1000 ≤ x ∧ x ≤ 1000) :
    Calls Tryz.prog 49 #[.slice a l.length cap] w fun r w' => ∃ v, r = .returned v ∧ Own cPass 3 w.heap.size 99 w' v (passesOf l.length l) ∧ Below w.heap.size w w' := by
  have hcap := hS.le
  have hm := hS.max
  have HALL := hid hall; clear hall
  go_enter Tryz.func49, Tryz.ntmps49
  go_wp2_with fail
  go_loopw [0, 3, 4, 5, 6, 7] (fun v1 v7 _ _ _ _ wr => ∃ (a1 : Option Addr) (cap1 : Nat) (r : List Int) (ps : List PassV) (f : Nat), v1 = .slice a1 r.length cap1 ∧ Ints w a1 cap1 r ∧ SL w.heap.size w wr [pOwn cPass 3 99 v7 ps] ∧ ps.length + r.length ≤ l.length ∧ r.length ≤ f ∧ ps ++ passesOf f r = passesOf l.length l ∧ (∀ x ∈ r, x ≠ 0 ∧ -1000 ≤ x ∧ x ≤ 1000)) (fun v1 _ _ _ _ _ _ => lenV v1)
  case atStart => exact ⟨a, cap, l, [], l.length, rfl, hS, (SL.nil w).nilS cPassS, by simp, Nat.le_refl _, rfl, HALL.out⟩
  case round =>
    obtain ⟨a1, cap1, r, ps, f, rfl, hR, hO, hlen, hf, hgo, hall⟩ := hrel
    have hbr := hO.b
    have hcap1 := hR.le
    have hm1 := hR.max
    by_cases h0 : 0 < r.length
    · obtain ⟨b, o, rfl, _⟩ := hR.cells (by decide) 0 0 h0
      have hin : ∀ j : Nat, j < r.length → atD 0 r j ∈ r := fun j hj => by simp [atD, hj]
      have hL : ∀ j : Nat, j < r.length → -1000 ≤ atD 0 r j ∧ atD 0 r j ≤ 1000 := fun j hj => by have := hall _ (hin j hj); omega
      have hrun1 := fun W (hW : Below w.heap.size w W) => rRun_any 1 _ cap1 r W (hR.below hW) (.inl rfl) h0 (by omega) hL
      have hrun2 := fun W (hW : Below w.heap.size w W) => rRun_any (-1) _ cap1 r W (hR.below hW) (.inr rfl) h0 (by omega) hL
      have hsz := fun W => rsize_any (atD 0 r 0) W (by have := hL 0 h0; simp at this; omega) (by have := hL 0 h0; simp at this; omega)
      have hfr : 0 ≤ absI (atD 0 r 0) ∧ absI (atD 0 r 0) ≤ 1000 := by have := hL 0 h0; simp at this; unfold absI; split <;> omega
      have hcp := passCount_pos (r := r)
      have hcl := passCount_le h0
      have hup : runN r 1 ≤ r.length := runGo_le r 1 r.length 1 h0
      have hdn : runN r (-1) ≤ r.length := runGo_le r (-1) r.length 1 h0
      have hmx : max (runN r 1) (runN r (-1)) = passCount r := by unfold passCount; omega
      obtain ⟨up, hu⟩ : ∃ u, u = runN r 1 := ⟨_, rfl⟩
      obtain ⟨dn, hd⟩ : ∃ u, u = runN r (-1) := ⟨_, rfl⟩
      obtain ⟨fr, hfre⟩ : ∃ u, u = absI (atD 0 r 0) := ⟨_, rfl⟩
      obtain ⟨c, hc⟩ : ∃ u, u = passCount r := ⟨_, rfl⟩
      rw [← hu] at hrun1 hmx hup; rw [← hd] at hrun2 hmx hdn; rw [← hfre] at hsz hfr; rw [← hc] at hcp hcl hmx
      have HU := hid hu; have HD := hid hd; have HF := hid hfre; have HC := hid hc
      have R1 := hid hrun1; have R2 := hid hrun2; have SZ := hid hsz; have HG := hid hgo; have HA := hid hall
      clear hu hd hfre hc hrun1 hrun2 hsz hgo hall hin hL
      have hR2 := hR.below hbr
      by_cases hud : up < dn
      · have : dn = c := by omega
        subst this
        clear hmx
        have hwr1 : IntKind.i64.wrap (fr + dn) = fr + dn := IntWalk.i64_in _ (by omega)
        have hwr2 : IntKind.i64.wrap (fr + 1) = fr + 1 := IntWalk.i64_in _ (by omega)
        have hwr3 : IntKind.i64.wrap (fr + 1 - dn) = fr + 1 - dn := IntWalk.i64_in _ (by omega)
        go_wp2_with fail
        refine (R1.out _ hbr).mono ?_
        rintro e w2 ⟨rfl, hb2⟩
        go_wp2_with fail
        refine (R2.out _ (bnext hbr hb2)).mono ?_
        rintro e w3 ⟨rfl, hb3⟩
        go_wp2_with fail
        refine (R2.out _ (bnext hbr (bnext hb2 hb3))).mono ?_
        rintro e w4 ⟨rfl, hb4⟩
        have t4 := bnext hbr (bnext hb2 (bnext hb3 hb4))
        have hO4 := ((hO.mono hb2).mono hb3).mono hb4
        clear hR2 hO hb2 hb3 hb4
        have csz : ∀ w' : World, Calls Tryz.prog 119 #[.int .i64 (atD 0 r 0)] w' fun e w'' => e = .returned (.int .i64 fr) ∧ w' = w'' := SZ.out
        obtain ⟨b1', o1', e1, hc0⟩ := hR.cells (by decide) 0 0 h0
        cases e1
        have kc := hc0 0 (.int .i64 (atD 0 r 0)) rfl
        simp only [Nat.zero_mul, Nat.add_zero] at kc
        have CSZ := hid csz
        clear hc0 csz
        go_wp2_with fail
        refine wp_regionK (C := Below (w).heap.size (w)) [0, 1, 2, 3, 4, 5, 6, 7, 8, 9, 10] [_, _, _, _, _, _, _, _, _, _, _] 2 (by simp only [List.map_cons, List.map_nil, List.getElem?_toArray]; rfl) rfl (by kernel_rfl) (by kernel_rfl) (by kernel_rfl) (t4.drew) ?_
        refine ⟨_, yieldsK_val (by with_unfolding_all rfl) (fun w' => by with_unfolding_all exact rfl), ?_⟩
        go_frame
        refine ⟨_, yieldsK_idx (k := (0 : Int)) E_ints (by omega) (by first | omega | (simp; omega)) (by with_unfolding_all rfl) (by with_unfolding_all rfl) (by with_unfolding_all rfl), ?_⟩
        go_frame
        refine ⟨_, yieldsK_cell F_int (kc) (by with_unfolding_all rfl) (by with_unfolding_all rfl), ?_⟩
        go_frame
        refine ⟨_, yieldsK_call (f := 119) (args := #[.int .i64 (atD 0 r 0)]) (by with_unfolding_all rfl) (fun w' => by first | (go_simp; done) | (go_simp; rfl)) (fun w' => CSZ.out w'), ?_⟩
        go_frame
        refine ⟨_, yieldsK_val (by with_unfolding_all rfl) (fun w' => by with_unfolding_all exact rfl), ?_⟩
        go_frame
        refine ⟨_, yieldsK_idx (k := (0 : Int)) E_ints (by omega) (by first | omega | (simp; omega)) (by with_unfolding_all rfl) (by with_unfolding_all rfl) (by with_unfolding_all rfl), ?_⟩
        go_frame
        refine ⟨_, yieldsK_cell F_int (kc) (by with_unfolding_all rfl) (by with_unfolding_all rfl), ?_⟩
        go_frame
        refine ⟨_, yieldsK_call (f := 119) (args := #[.int .i64 (atD 0 r 0)]) (by with_unfolding_all rfl) (fun w' => by first | (go_simp; done) | (go_simp; rfl)) (fun w' => CSZ.out w'), ?_⟩
        go_frame
        refine ⟨_, yieldsK_val (by with_unfolding_all rfl) (fun w' => by with_unfolding_all exact rfl), ?_⟩
        go_frame
        refine ⟨.int .i64 (fr + dn), yieldsK_val (by with_unfolding_all rfl) (fun w' => by first | (go_simp; done) | (go_simp; rfl)), ?_⟩
        go_frame
        refine ⟨.agg #[.int .i64 fr, .int .i64 (fr + dn), .string ⟨#[]⟩], yieldsK_val (by with_unfolding_all rfl) (fun w' => by first | (go_simp; done) | (go_simp; rfl)), ?_⟩
        go_frame
        unfold wpPureK
        have hVd : ({ w4 with drawn := w4.drawn + 1 } : World) = w4.drew := rfl
        rw [hVd]
        clear hVd
        have hO5 : SL w.heap.size w (w4.drew.alloc (.cells #[.int .i64 0, .int .i64 0, .string ⟨#[]⟩] 99)) [pBlk w4.heap.size (.cells #[.int .i64 0, .int .i64 0, .string ⟨#[]⟩] 99), pOwn cPass 3 99 u3 ps] := hO4.drew.box _
        refine wpAnyC_on [11] (by kernel_rfl) (by simp) ?_
        simp only [List.forall_mem_cons, List.not_mem_nil, false_implies, implies_true, and_true]
        refine wpOp_value (v := .pointer (some ⟨w4.heap.size, 0, none⟩)) (w' := w4.drew.alloc (.cells #[.int .i64 0, .int .i64 0, .string ⟨#[]⟩] 99)) (by rw [List.getElem?_toArray]; rfl) (by with_unfolding_all rfl) (by first | (go_simp; done) | (go_simp; rfl) | (simp [execOp, Act.eval, Result.andThen]; done)) ?_
        refine ⟨hO5.b, ?_⟩
        go_frame
        refine wpAnyC_on [12] (by kernel_rfl) (by simp) ?_
        simp only [List.forall_mem_cons, List.not_mem_nil, false_implies, implies_true, and_true]
        refine wpOp_of_list (by rw [List.getElem?_toArray]; rfl) ?_
        ((with_reducible refine wpList_stoR (us := #[.int .i64 fr, .int .i64 (fr + dn), .string ⟨#[]⟩]) 0 (by with_unfolding_all rfl) (by with_unfolding_all rfl) (hO5) (by with_unfolding_all rfl) (by kernel_rfl) (by with_unfolding_all rfl) (by with_unfolding_all rfl) ?_); intro w5 hO6)
        refine ⟨hO6.b, ?_⟩
        go_frame
        refine wpAnyC_rest [] [] rfl rfl (by kernel_rfl) (by kernel_rfl) (by kernel_rfl) hO6.b ?_
        unfold wpPure
        refine of_wpList_nil (P := Tryz.prog) (ops := #[]) ?_
        go_wp2_with fail
        refine wp_regionK (C := Below (w).heap.size (w)) [0, 1, 2, 3, 4, 5, 6, 7, 8, 9, 10, 11, 12] [_, _, _, _, _, _, _, _, _, _, _, _, _] 1 (by simp only [List.map_cons, List.map_nil, List.getElem?_toArray]; rfl) rfl (by kernel_rfl) (by kernel_rfl) (by kernel_rfl) (hO6.b.drew) ?_
        refine ⟨_, yieldsK_val (by with_unfolding_all rfl) (fun w' => by with_unfolding_all exact rfl), ?_⟩
        go_frame
        refine ⟨_, yieldsK_idx (k := (0 : Int)) E_ints (by omega) (by first | omega | (simp; omega)) (by with_unfolding_all rfl) (by with_unfolding_all rfl) (by with_unfolding_all rfl), ?_⟩
        go_frame
        refine ⟨_, yieldsK_cell F_int (kc) (by with_unfolding_all rfl) (by with_unfolding_all rfl), ?_⟩
        go_frame
        refine ⟨_, yieldsK_call (f := 119) (args := #[.int .i64 (atD 0 r 0)]) (by with_unfolding_all rfl) (fun w' => by first | (go_simp; done) | (go_simp; rfl)) (fun w' => CSZ.out w'), ?_⟩
        go_frame
        refine ⟨.int .i64 (fr + 1), yieldsK_val (by with_unfolding_all rfl) (fun w' => by first | (go_simp; done) | (go_simp; rfl)), ?_⟩
        go_frame
        refine ⟨_, yieldsK_val (by with_unfolding_all rfl) (fun w' => by with_unfolding_all exact rfl), ?_⟩
        go_frame
        refine ⟨_, yieldsK_idx (k := (0 : Int)) E_ints (by omega) (by first | omega | (simp; omega)) (by with_unfolding_all rfl) (by with_unfolding_all rfl) (by with_unfolding_all rfl), ?_⟩
        go_frame
        refine ⟨_, yieldsK_cell F_int (kc) (by with_unfolding_all rfl) (by with_unfolding_all rfl), ?_⟩
        go_frame
        refine ⟨_, yieldsK_call (f := 119) (args := #[.int .i64 (atD 0 r 0)]) (by with_unfolding_all rfl) (fun w' => by first | (go_simp; done) | (go_simp; rfl)) (fun w' => CSZ.out w'), ?_⟩
        go_frame
        refine ⟨.int .i64 (fr + 1), yieldsK_val (by with_unfolding_all rfl) (fun w' => by first | (go_simp; done) | (go_simp; rfl)), ?_⟩
        go_frame
        refine ⟨_, yieldsK_val (by with_unfolding_all rfl) (fun w' => by with_unfolding_all exact rfl), ?_⟩
        go_frame
        refine ⟨.int .i64 (fr + 1 - dn), yieldsK_val (by with_unfolding_all rfl) (fun w' => by first | (go_simp; done) | (go_simp; rfl)), ?_⟩
        go_frame
        refine ⟨.agg #[.int .i64 (fr + 1), .int .i64 (fr + 1 - dn), .string ⟨#[]⟩], yieldsK_val (by with_unfolding_all rfl) (fun w' => by first | (go_simp; done) | (go_simp; rfl)), ?_⟩
        go_frame
        unfold wpPureK
        have hVd : ({ w5 with drawn := w5.drawn + 1 } : World) = w5.drew := rfl
        rw [hVd]
        clear hVd
        have hO7 := hO6.drew
        refine wpAnyC_on [13] (by kernel_rfl) (by simp) ?_
        simp only [List.forall_mem_cons, List.not_mem_nil, false_implies, implies_true, and_true]
        refine wpOp_of_list (by rw [List.getElem?_toArray]; rfl) ?_
        ((with_reducible refine wpList_stoR (us := #[.int .i64 (fr + 1), .int .i64 (fr + 1 - dn), .string ⟨#[]⟩]) 0 (by with_unfolding_all rfl) (by with_unfolding_all rfl) (hO7) (by with_unfolding_all rfl) (by kernel_rfl) (by with_unfolding_all rfl) (by with_unfolding_all rfl) ?_); intro w6 hO8)
        refine ⟨hO8.b, ?_⟩
        go_frame
        refine wpAnyC_rest [] [] rfl rfl (by kernel_rfl) (by kernel_rfl) (by kernel_rfl) hO8.b ?_
        unfold wpPure
        refine of_wpList_nil (P := Tryz.prog) (ops := #[]) ?_
        go_wp2_with fail
        have hFT : decide ((fr + 1) < (fr + 1 - dn)) = false := by simp; omega
        have hws0 : wayL (fr + 1) (fr + 1 - dn) (r.take 0) = ⟨#[]⟩ := rfl
        go_loopw [7] (fun i wq => ∃ k : Nat, k ≤ dn ∧ i = .int .i64 k ∧ SL w.heap.size w wq [pBlk w4.heap.size (.cells #[.int .i64 (fr + 1), .int .i64 (fr + 1 - dn), .string (wayL (fr + 1) (fr + 1 - dn) (r.take k))] 99), pOwn cPass 3 99 u3 ps]) (fun i _ => dn - (intOf i).toNat)
        case atStart => exact ⟨0, by omega, rfl, hO8⟩
        case round =>
          obtain ⟨k, hk, rfl, hSq⟩ := hrel
          have q2 := hSq.cell 0 rfl 2 rfl
          have f2 := hSq.frozen 0 rfl 2
          have hRq := hR.below hSq.b
          have hsiz : (wayL (fr + 1) (fr + 1 - dn) (r.take k)).size ≤ 200 := by rw [wayL_size]; simp; omega
          by_cases hlt : k < dn
          · have hsu := wayL_succ (fr + 1) (fr + 1 - dn) r k (by omega)
            by_cases hpos : 0 < atD 0 r k
            · have e : sideB (fr + 1) (fr + 1 - dn) (atD 0 r k) = false := by
                unfold sideB; rw [hFT]; simp [hpos]
              rw [e] at hsu
              have HS := hid hsu; clear hsu e hFT
              have hset := hSq.set 0 rfl 2 (.string (wayL (fr + 1) (fr + 1 - dn) (r.take k) ++ ⟨#[117]⟩))
              go_wp2_with (with_reducible refine wpList_idx _ 0 E_ints F_int cInt1 (by with_unfolding_all rfl) (by with_unfolding_all rfl) (hRq) (by first | omega | (simp; done)) (by first | omega | (simp; done)) (fun _ => by with_unfolding_all rfl) (fun _ => ?_))
              first
                | exact ⟨⟨k + 1, by omega, by go_num, by rw [HS.out]; exact hset⟩, by simp [intOf]; omega⟩
                | (refine ⟨?_, by simp [intOf]; omega⟩
                   repeat apply Exists.intro
                   exact ⟨⟨k + 1, by omega, by go_num, by rw [HS.out]; exact hset⟩, rfl⟩)
            · have e : sideB (fr + 1) (fr + 1 - dn) (atD 0 r k) = true := by
                unfold sideB; rw [hFT]; simp [hpos]
              rw [e] at hsu
              have HS := hid hsu; clear hsu e hFT
              have hset := hSq.set 0 rfl 2 (.string (wayL (fr + 1) (fr + 1 - dn) (r.take k) ++ ⟨#[111]⟩))
              go_wp2_with (with_reducible refine wpList_idx _ 0 E_ints F_int cInt1 (by with_unfolding_all rfl) (by with_unfolding_all rfl) (hRq) (by first | omega | (simp; done)) (by first | omega | (simp; done)) (fun _ => by with_unfolding_all rfl) (fun _ => ?_))
              first
                | exact ⟨⟨k + 1, by omega, by go_num, by rw [HS.out]; exact hset⟩, by simp [intOf]; omega⟩
                | (refine ⟨?_, by simp [intOf]; omega⟩
                   repeat apply Exists.intro
                   exact ⟨⟨k + 1, by omega, by go_num, by rw [HS.out]; exact hset⟩, rfl⟩)
          · have : k = dn := by omega
            subst this
            obtain ⟨P, hP⟩ : ∃ P : PassV, P = ⟨(fr + 1), (fr + 1 - k), wayL (fr + 1) (fr + 1 - k) (r.take k)⟩ := ⟨_, rfl⟩
            have hPo : passOf r = P := by
              rw [hP]
              unfold passOf passF passT
              rw [← HU.out, ← HD.out, ← HF.out, ← HC.out]
              simp [hud]
            obtain ⟨g, rfl⟩ : ∃ g, f = g + 1 := ⟨f - 1, by omega⟩
            have hstep := passesOf_step (f := g) h0
            rw [hPo, ← HC.out] at hstep
            have hgo2 : (ps ++ [P]) ++ passesOf g (r.drop k) = passesOf l.length l := by
              rw [← HG.out, hstep]; simp
            have hRd := reps_drop hR hcl
            have hlp : (ps ++ [P]).length + (r.drop k).length ≤ l.length := by simp; omega
            have hq := (hSq.blk 0 rfl).1
            have HP := hid hP
            have HGO2 := hid hgo2; have HLP := hid hlp
            clear hstep hgo2 hPo hlp hP
            go_wp2_with (first | (with_reducible refine wpList_ldS (n := 3) (us := #[.int .i64 (fr + 1), .int .i64 (fr + 1 - k), .string (wayL (fr + 1) (fr + 1 - k) (r.take k))]) F_rpass (by kernel_rfl) (by with_unfolding_all rfl) (by with_unfolding_all rfl) (by assumption) (by with_unfolding_all rfl) (by with_unfolding_all rfl) ?_) | ((with_reducible refine wpList_pushL (y := (⟨(fr + 1), (fr + 1 - k), wayL (fr + 1) (fr + 1 - k) (r.take k)⟩ : PassV)) 1 E_rpasses (by with_unfolding_all rfl) (by with_unfolding_all rfl) (hSq) (by with_unfolding_all rfl) cPassO ⟨rfl, rfl⟩ (by first | with_unfolding_all rfl | simp) (by with_unfolding_all rfl) (by first | omega | (simp; omega)) (by first | omega | (simp; omega)) ?_); intro v9 w9 hS9))
            have hS10 := hS9.one 1 rfl
            refine ⟨⟨_, _, r.drop k, ps ++ [P], g, by rw [List.length_drop], hRd, ?_, HLP.out, by simp; omega, HGO2.out, fun x hx => HA.out x (List.mem_of_mem_drop hx)⟩, by simp [lenV]; omega⟩
            rw [HP.out]
            exact hS10
      · have : up = c := by omega
        subst this
        clear hmx
        have hwr1 : IntKind.i64.wrap (fr + up) = fr + up := IntWalk.i64_in _ (by omega)
        have hwr2 : IntKind.i64.wrap (fr + 1) = fr + 1 := IntWalk.i64_in _ (by omega)
        have hwr3 : IntKind.i64.wrap (fr + 1 - up) = fr + 1 - up := IntWalk.i64_in _ (by omega)
        go_wp2_with fail
        refine (R1.out _ hbr).mono ?_
        rintro e w2 ⟨rfl, hb2⟩
        go_wp2_with fail
        refine (R2.out _ (bnext hbr hb2)).mono ?_
        rintro e w3 ⟨rfl, hb3⟩
        have t3 := bnext hbr (bnext hb2 hb3)
        have hO4 := (hO.mono hb2).mono hb3
        clear hR2 hO hb2 hb3
        have csz : ∀ w' : World, Calls Tryz.prog 119 #[.int .i64 (atD 0 r 0)] w' fun e w'' => e = .returned (.int .i64 fr) ∧ w' = w'' := SZ.out
        obtain ⟨b1', o1', e1, hc0⟩ := hR.cells (by decide) 0 0 h0
        cases e1
        have kc := hc0 0 (.int .i64 (atD 0 r 0)) rfl
        simp only [Nat.zero_mul, Nat.add_zero] at kc
        have CSZ := hid csz
        clear hc0 csz
        go_wp2_with fail
        refine wp_regionK (C := Below (w).heap.size (w)) [0, 1, 2, 3, 4, 5, 6, 7, 8, 9, 10] [_, _, _, _, _, _, _, _, _, _, _] 2 (by simp only [List.map_cons, List.map_nil, List.getElem?_toArray]; rfl) rfl (by kernel_rfl) (by kernel_rfl) (by kernel_rfl) (t3.drew) ?_
        refine ⟨_, yieldsK_val (by with_unfolding_all rfl) (fun w' => by with_unfolding_all exact rfl), ?_⟩
        go_frame
        refine ⟨_, yieldsK_idx (k := (0 : Int)) E_ints (by omega) (by first | omega | (simp; omega)) (by with_unfolding_all rfl) (by with_unfolding_all rfl) (by with_unfolding_all rfl), ?_⟩
        go_frame
        refine ⟨_, yieldsK_cell F_int (kc) (by with_unfolding_all rfl) (by with_unfolding_all rfl), ?_⟩
        go_frame
        refine ⟨_, yieldsK_call (f := 119) (args := #[.int .i64 (atD 0 r 0)]) (by with_unfolding_all rfl) (fun w' => by first | (go_simp; done) | (go_simp; rfl)) (fun w' => CSZ.out w'), ?_⟩
        go_frame
        refine ⟨_, yieldsK_val (by with_unfolding_all rfl) (fun w' => by with_unfolding_all exact rfl), ?_⟩
        go_frame
        refine ⟨_, yieldsK_idx (k := (0 : Int)) E_ints (by omega) (by first | omega | (simp; omega)) (by with_unfolding_all rfl) (by with_unfolding_all rfl) (by with_unfolding_all rfl), ?_⟩
        go_frame
        refine ⟨_, yieldsK_cell F_int (kc) (by with_unfolding_all rfl) (by with_unfolding_all rfl), ?_⟩
        go_frame
        refine ⟨_, yieldsK_call (f := 119) (args := #[.int .i64 (atD 0 r 0)]) (by with_unfolding_all rfl) (fun w' => by first | (go_simp; done) | (go_simp; rfl)) (fun w' => CSZ.out w'), ?_⟩
        go_frame
        refine ⟨_, yieldsK_val (by with_unfolding_all rfl) (fun w' => by with_unfolding_all exact rfl), ?_⟩
        go_frame
        refine ⟨.int .i64 (fr + up), yieldsK_val (by with_unfolding_all rfl) (fun w' => by first | (go_simp; done) | (go_simp; rfl)), ?_⟩
        go_frame
        refine ⟨.agg #[.int .i64 fr, .int .i64 (fr + up), .string ⟨#[]⟩], yieldsK_val (by with_unfolding_all rfl) (fun w' => by first | (go_simp; done) | (go_simp; rfl)), ?_⟩
        go_frame
        unfold wpPureK
        have hVd : ({ w3 with drawn := w3.drawn + 1 } : World) = w3.drew := rfl
        rw [hVd]
        clear hVd
        have hO5 : SL w.heap.size w (w3.drew.alloc (.cells #[.int .i64 0, .int .i64 0, .string ⟨#[]⟩] 99)) [pBlk w3.heap.size (.cells #[.int .i64 0, .int .i64 0, .string ⟨#[]⟩] 99), pOwn cPass 3 99 u3 ps] := hO4.drew.box _
        refine wpAnyC_on [11] (by kernel_rfl) (by simp) ?_
        simp only [List.forall_mem_cons, List.not_mem_nil, false_implies, implies_true, and_true]
        refine wpOp_value (v := .pointer (some ⟨w3.heap.size, 0, none⟩)) (w' := w3.drew.alloc (.cells #[.int .i64 0, .int .i64 0, .string ⟨#[]⟩] 99)) (by rw [List.getElem?_toArray]; rfl) (by with_unfolding_all rfl) (by first | (go_simp; done) | (go_simp; rfl) | (simp [execOp, Act.eval, Result.andThen]; done)) ?_
        refine ⟨hO5.b, ?_⟩
        go_frame
        refine wpAnyC_on [12] (by kernel_rfl) (by simp) ?_
        simp only [List.forall_mem_cons, List.not_mem_nil, false_implies, implies_true, and_true]
        refine wpOp_of_list (by rw [List.getElem?_toArray]; rfl) ?_
        ((with_reducible refine wpList_stoR (us := #[.int .i64 fr, .int .i64 (fr + up), .string ⟨#[]⟩]) 0 (by with_unfolding_all rfl) (by with_unfolding_all rfl) (hO5) (by with_unfolding_all rfl) (by kernel_rfl) (by with_unfolding_all rfl) (by with_unfolding_all rfl) ?_); intro w5 hO6)
        refine ⟨hO6.b, ?_⟩
        go_frame
        refine wpAnyC_rest [] [] rfl rfl (by kernel_rfl) (by kernel_rfl) (by kernel_rfl) hO6.b ?_
        unfold wpPure
        refine of_wpList_nil (P := Tryz.prog) (ops := #[]) ?_
        go_wp2_with fail
        have hO8 := hO6
        have hFT : decide (fr < (fr + up)) = true := by simp; omega
        have hws0 : wayL fr (fr + up) (r.take 0) = ⟨#[]⟩ := rfl
        go_loopw [7] (fun i wq => ∃ k : Nat, k ≤ up ∧ i = .int .i64 k ∧ SL w.heap.size w wq [pBlk w3.heap.size (.cells #[.int .i64 fr, .int .i64 (fr + up), .string (wayL fr (fr + up) (r.take k))] 99), pOwn cPass 3 99 u3 ps]) (fun i _ => up - (intOf i).toNat)
        case atStart => exact ⟨0, by omega, rfl, hO8⟩
        case round =>
          obtain ⟨k, hk, rfl, hSq⟩ := hrel
          have q2 := hSq.cell 0 rfl 2 rfl
          have f2 := hSq.frozen 0 rfl 2
          have hRq := hR.below hSq.b
          have hsiz : (wayL fr (fr + up) (r.take k)).size ≤ 200 := by rw [wayL_size]; simp; omega
          by_cases hlt : k < up
          · have hsu := wayL_succ fr (fr + up) r k (by omega)
            by_cases hpos : 0 < atD 0 r k
            · have e : sideB fr (fr + up) (atD 0 r k) = true := by
                unfold sideB; rw [hFT]; simp [hpos]
              rw [e] at hsu
              have HS := hid hsu; clear hsu e hFT
              have hset := hSq.set 0 rfl 2 (.string (wayL fr (fr + up) (r.take k) ++ ⟨#[111]⟩))
              go_wp2_with (with_reducible refine wpList_idx _ 0 E_ints F_int cInt1 (by with_unfolding_all rfl) (by with_unfolding_all rfl) (hRq) (by first | omega | (simp; done)) (by first | omega | (simp; done)) (fun _ => by with_unfolding_all rfl) (fun _ => ?_))
              first
                | exact ⟨⟨k + 1, by omega, by go_num, by rw [HS.out]; exact hset⟩, by simp [intOf]; omega⟩
                | (refine ⟨?_, by simp [intOf]; omega⟩
                   repeat apply Exists.intro
                   exact ⟨⟨k + 1, by omega, by go_num, by rw [HS.out]; exact hset⟩, rfl⟩)
            · have e : sideB fr (fr + up) (atD 0 r k) = false := by
                unfold sideB; rw [hFT]; simp [hpos]
              rw [e] at hsu
              have HS := hid hsu; clear hsu e hFT
              have hset := hSq.set 0 rfl 2 (.string (wayL fr (fr + up) (r.take k) ++ ⟨#[117]⟩))
              go_wp2_with (with_reducible refine wpList_idx _ 0 E_ints F_int cInt1 (by with_unfolding_all rfl) (by with_unfolding_all rfl) (hRq) (by first | omega | (simp; done)) (by first | omega | (simp; done)) (fun _ => by with_unfolding_all rfl) (fun _ => ?_))
              first
                | exact ⟨⟨k + 1, by omega, by go_num, by rw [HS.out]; exact hset⟩, by simp [intOf]; omega⟩
                | (refine ⟨?_, by simp [intOf]; omega⟩
                   repeat apply Exists.intro
                   exact ⟨⟨k + 1, by omega, by go_num, by rw [HS.out]; exact hset⟩, rfl⟩)
          · have : k = up := by omega
            subst this
            obtain ⟨P, hP⟩ : ∃ P : PassV, P = ⟨fr, (fr + k), wayL fr (fr + k) (r.take k)⟩ := ⟨_, rfl⟩
            have hPo : passOf r = P := by
              rw [hP]
              unfold passOf passF passT
              rw [← HU.out, ← HD.out, ← HF.out, ← HC.out]
              simp [hud]
            obtain ⟨g, rfl⟩ : ∃ g, f = g + 1 := ⟨f - 1, by omega⟩
            have hstep := passesOf_step (f := g) h0
            rw [hPo, ← HC.out] at hstep
            have hgo2 : (ps ++ [P]) ++ passesOf g (r.drop k) = passesOf l.length l := by
              rw [← HG.out, hstep]; simp
            have hRd := reps_drop hR hcl
            have hlp : (ps ++ [P]).length + (r.drop k).length ≤ l.length := by simp; omega
            have hq := (hSq.blk 0 rfl).1
            have HP := hid hP
            have HGO2 := hid hgo2; have HLP := hid hlp
            clear hstep hgo2 hPo hlp hP
            go_wp2_with (first | (with_reducible refine wpList_ldS (n := 3) (us := #[.int .i64 fr, .int .i64 (fr + k), .string (wayL fr (fr + k) (r.take k))]) F_rpass (by kernel_rfl) (by with_unfolding_all rfl) (by with_unfolding_all rfl) (by assumption) (by with_unfolding_all rfl) (by with_unfolding_all rfl) ?_) | ((with_reducible refine wpList_pushL (y := (⟨fr, (fr + k), wayL fr (fr + k) (r.take k)⟩ : PassV)) 1 E_rpasses (by with_unfolding_all rfl) (by with_unfolding_all rfl) (hSq) (by with_unfolding_all rfl) cPassO ⟨rfl, rfl⟩ (by first | with_unfolding_all rfl | simp) (by with_unfolding_all rfl) (by first | omega | (simp; omega)) (by first | omega | (simp; omega)) ?_); intro v9 w9 hS9))
            have hS10 := hS9.one 1 rfl
            refine ⟨⟨_, _, r.drop k, ps ++ [P], g, by rw [List.length_drop], hRd, ?_, HLP.out, by simp; omega, HGO2.out, fun x hx => HA.out x (List.mem_of_mem_drop hx)⟩, by simp [lenV]; omega⟩
            rw [HP.out]
            exact hS10
    · have : r = [] := List.eq_nil_of_length_eq_zero (by omega)
      subst this
      have hgo2 : ps = passesOf l.length l := by rw [← hgo]; cases f <;> simp [passesOf]
      subst hgo2
      clear hgo
      go_wp2_with fail
      go_ret
      exact ⟨_, rfl, hO.own 0 rfl, hbr⟩
end Go.Proofs.YtogbclcnmogaeaaGreatDoor
