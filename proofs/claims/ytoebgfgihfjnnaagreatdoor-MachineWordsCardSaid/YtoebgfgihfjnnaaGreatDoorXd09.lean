/- Contracts and plain facts that the claim uses (MaM MaN MaO MaR MaS QrH MbG MbN). Conditions: as each one states. -/
import Derived.Sort.QuietThIn
import Derived.OwnWalkIn
import Derived.Test.YtoebgfgihfjnnaaGreatDoorXd03
import Derived.Test.YtoebgfgihfjnnaaGreatDoorXd05
import Derived.Test.YtoebgfgihfjnnaaGreatDoorXd08
set_option linter.all false

namespace Go.Proofs.YtoebgfgihfjnnaaGreatDoor
open Go.RowKit
set_option maxHeartbeats 8000000
set_option maxRecDepth 100000

theorem SL.madeB {B : Nat} {w0 w : World} {L : List Pc} (h : SL B w0 w L) : SL B w0 (w.alloc (.map #[] 0)) (pMapB w.heap.size 0 (fun _ => false) :: L) :=
 h.new _ (b := some w.heap.size) (World.grownBy_alloc w _ .none) ⟨rfl, mapB_made w⟩ (fun k e => by cases e; exact Nat.le_refl _)
theorem orbK_len2 (p : List Int) (i : Int) (j : Nat) : (orbK p i j).length = j := by simp [orbK]

theorem mPaths_any (m : MacV) (ad : Option Addr) (cap : Nat) (w : World) (hR : Ints w ad cap m.sw) (HK : ChkM m ad cap) :
  Calls Tryz.prog 41 #[mV m ad cap] w fun r w' => ∃ (v : Value) (qs : List (SlH × List Int)), r = .returned (.tuple #[v, .int .i64 (macE m)]) ∧ qs.map Prod.snd = (if macE m = 0 then cycK (permM m) (permM m).length else []) ∧ SL w.heap.size w w' (pOwn cSl 1 22 v (qs.map Prod.fst) :: qs.map inP) := by
 have hS := (SL.nil w).box (.cells (mC m ad cap) 24)
 have R1 := hR.below hS.b
 unfold ChkM at HK
 by_cases he : macE m = 0
 ·have hok := (macE_zero he).1
  have hlo := hok.lo
  have hhi := hok.hi
  have hp := permM_isP m
  have hpl := permM_len m
  obtain ⟨N, hN⟩ : ∃ N : Nat, (permM m).length = N := ⟨_, rfl⟩
  have hN4 : 4 * m.gears = N := by omega
  have CS := fun w => slots_any m ad cap w (by omega) hhi
  rw [hN4] at CS
  have CN := fun (s : Int) (k : Nat) w (h : Ints w ad cap m.sw) (h0 : 0 ≤ s) (h1 : s < N) => mnext_any m ad cap (itM m s k) w h hhi (itM_rng h0 (by omega) k).1 (itM_rng h0 (by omega) k).2
  have CE := fun (s : Int) (k : Nat) (h0 : 0 ≤ s) (h1 : s < N) => itM_succ (m := m) h0 (by omega) k
  have hN64 : N ≤ 64 := by omega
  rw [if_pos he, hN]
  rw [he] at HK ⊢
  obtain ⟨p, hpp⟩ : ∃ p, p = permM m := ⟨_, rfl⟩
  have CI : ∀ s k, itM m s k = itP p s k := by intro s k; rw [hpp]; rfl
  rw [← hpp] at hp hN ⊢
  have hmm := @run_makeMap Tryz.prog
  have HC := hid HK; have HS := hid CS; have HN := hid CN; have HE := hid CE; have HI := hid CI
  clear HK CS CN CE CI hok he hpl hpp
  go_enter Tryz.func41, Tryz.ntmps41
  go_wp2_with fail
  refine (HC.out _ R1).mono ?_
  rintro e w1 ⟨rfl, b1⟩
  have hS1 := hS.mono b1
  have q1 := (hS1.blk 0 rfl).1
  have hS2 := (hS1.madeB).nilS (α := SlH) (c := cSl) (sz := 1) (e := 22) cSlS
  have q2 := (hS2.blk 2 rfl).1
  obtain ⟨M, hM⟩ : ∃ M, M = w1.heap.size := ⟨_, rfl⟩
  go_wp2_with (with_reducible refine wpList_ldS (n := 4) (us := mC m ad cap) A_mach kR wU wU (by assumption) wU wU ?_)
  rw [← hM] at hS2 ⊢
  clear hM
  refine (HS.out _).mono ?_
  rintro e w3 ⟨rfl, b3⟩
  have hS3 := hS2.mono b3
  clear q1 q2 hmm
  go_wp2_with fail
  go_loopw [6, 18] (fun ov i wr => ∃ (k n : Nat) (f : Int → Bool) (qs : List (SlH × List Int)), k ≤ N ∧ i = .int .i64 k ∧ n ≤ 64 * k ∧ (∀ x : Int, 0 ≤ x → x < N → f x = decide (x ∈ (cycK p k).flatten)) ∧ qs.map Prod.snd = cycK p k ∧ SL w.heap.size w wr (pOwn cSl 1 22 ov (qs.map Prod.fst) :: pMapB M n f :: pBlk w.heap.size (.cells (mC m ad cap) 24) :: qs.map inP)) (fun _ i _ => N - (intOf i).toNat)
  case atStart => exact ⟨0, 0, fun _ => false, [], by omega, rfl, by omega, fun x h0 h1 => by simp [cycK], rfl, hS3⟩
  case round =>
   clear hS3 hS1 hS2 hS
   obtain ⟨k, n, f, qs, hk, rfl, hnk, hsn, hqs, hSL⟩ := hrel
   have HSN := hid hsn; have HQ := hid hqs
   have hql : qs.length ≤ k := by have := cycK_len p k; rw [← hqs] at this; simpa using this
   have hqlen : (qs.map Prod.fst).length ≤ 64 := by simp; omega
   clear hsn hqs
   by_cases hlt : k < N
   ·have hk0 : (0 : Int) ≤ k := by omega
    have hk1 : (k : Int) < p.length := by omega
    have hkN : k < p.length := by omega
    have hkI : InI (k : Int) := by unfold InI; omega
    have hmB := hSL.mapB 1 rfl
    have hsk := HSN.out k hk0 (by omega)
    by_cases hin : (k : Int) ∈ (cycK p k).flatten
    ·rw [decide_eq_true hin] at hsk
     have HSK := hid hsk; have HIN := hid hin
     clear hsk hin
     go_wp2_with ((with_reducible refine wpList_lookB wU wU (hmB) (hkI) wU ?_); rw [HSK.out])
     refine ⟨⟨k + 1, n, f, qs, by omega, by go_num, by omega, ?_, ?_, hSL⟩, by simp [intOf]; omega⟩
     ·rw [cycK_in HIN.out]; exact HSN.out
     ·rw [cycK_in HIN.out]; exact HQ.out
    ·rw [decide_eq_false hin] at hsk
     obtain ⟨d, hd⟩ := ord_ex hp hk0 hk1
     have hd0 := hd.pos
     have hd1 := hd.le
     have HSK := hid hsk; have HIN := hid hin; have HD := hid hd
     clear hsk hin hd
     go_wp2_with ((with_reducible refine wpList_lookB wU wU (hmB) (hkI) wU ?_); rw [HSK.out])
     have hSc := hSL.nilS (α := Int) (c := cInt) (sz := 1) (e := 3) cIntS
     go_loopw [8, 9] (fun cv av wq => ∃ (j n' : Nat) (g : Int → Bool), j ≤ d ∧ av = .int .i64 (itP p k j) ∧ lenV cv = j ∧ n' ≤ 64 * k + j ∧ (∀ x : Int, 0 ≤ x → x < N → g x = (decide (x ∈ (cycK p k).flatten) || decide (x ∈ orbK p k j))) ∧ SL w.heap.size w wq (pOwn cInt 1 3 cv (orbK p k j) :: pOwn cSl 1 22 u6 (qs.map Prod.fst) :: pMapB M n' g :: pBlk w.heap.size (.cells (mC m ad cap) 24) :: qs.map inP)) (fun cv _ _ => d - lenV cv)
     case atStart => exact ⟨0, n, f, by omega, rfl, rfl, by omega, fun x h0 h1 => by rw [HSN.out x h0 h1]; simp [orbK], hSc⟩
     case round =>
      clear hSc hmB hSL
      obtain ⟨j, n', g, hj, rfl, hlv, hn', hgs, hSq⟩ := hrel
      have HLV := hid hlv; have HGS := hid hgs
      clear hlv hgs
      obtain ⟨x0, x1⟩ := itP_rng hp hk0 hk1 j
      have hol := orbK_len2 p k j
      have hole : (orbK p k j).length ≤ 64 := by rw [hol]; omega
      have hat := HGS.out _ x0 (by omega)
      have hsuc := orbK_succ p k j
      have hXI : InI (itP p k j) := by unfold InI; omega
      have hmB := hSq.mapB 2 rfl
      have hmx : n' < maxLen := by unfold maxLen; omega
      obtain ⟨X, hX⟩ : ∃ X, X = itP p k j := ⟨_, rfl⟩
      have C := fun w h => HN.out (k : Int) j w h hk0 (by omega)
      rw [← HE.out (k : Int) j hk0 (by omega), HI.out, HI.out, ← hX] at C
      have HSU := hid hsuc; have HOL := hid hol; have HC := hid C
      clear hol hsuc C
      by_cases hjd : j < d
      ·have hf1 := orbK_out hp hkN HIN.out HD.out hj
       have hf2 := orbK_new hp hk0 hk1 HD.out hjd
       rw [decide_eq_false hf1, decide_eq_false hf2] at hat
       rw [← hX] at hat hXI x0 x1 HSU ⊢
       have HAT := hid hat
       clear hat hf1 hf2 hX
       go_wp2_with (first | ((with_reducible refine wpList_lookB wU wU (hmB) (hXI) wU ?_); rw [HAT.out]) | ((with_reducible refine wpList_putBL 2 wU wU wU (hSq) wU (hXI) (hmx) ?_); intro w4 hS4) | (((with_reducible refine wpList_pushL (y := X) 0 E_ints wU wU (hS4) wU cIntO ⟨rfl, rfl⟩ (by first | with_unfolding_all rfl | simp) wU (by first | omega | (simp; omega)) (by first | omega | (simp; omega)) ?_); intro v5 w5 hS5); have q5 := (hS5.blk 3 rfl).1) | (with_reducible refine wpList_ldS (n := 4) (us := mC m ad cap) A_mach kR wU wU (by assumption) wU wU ?_))
       refine (HC.out _ (hR.below hS5.b)).mono ?_
       rintro e w6 ⟨rfl, b6⟩
       have hS6 := hS5.mono b6
       obtain ⟨a5, c5, e5, _⟩ := hS6.slice 0 rfl
       have hl5 : lenV v5 = j + 1 := by rw [e5]; show (orbK p k j ++ [X]).length = j + 1; rw [List.length_append, HOL.out]; rfl
       clear e5
       have HL5 := hid hl5
       clear hl5
       go_wp2_with fail
       have hl5 := HL5.out
       refine ⟨⟨j + 1, n' + 1, fun x => if x = X then true else g x, by omega, rfl, hl5, by omega, ?_, by rw [HSU.out]; exact hS6⟩, by rw [hl5, HLV.out]; omega⟩
       intro x h0 h1
       rw [HSU.out]
       by_cases e : x = X
       ·simp [e]
       ·simp only [e, if_false]
        rw [HGS.out x h0 h1]
        simp [e]
      ·have hjj : j = d := by omega
       subst hjj
       have hxd : itP p k j = k := HD.out.back
       have hmem : itP p k j ∈ orbK p k j := by rw [hxd]; exact List.mem_map.2 ⟨0, by simp [hd0], rfl⟩
       rw [decide_eq_true hmem, Bool.or_true] at hat
       have HAT := hid hat; have HXD := hid hxd
       clear hat hmem
       obtain ⟨al, cl, rfl, _⟩ := hSq.slice 0 rfl
       rw [← hX] at hXI HAT HXD ⊢
       go_wp2_with (first | ((with_reducible refine wpList_lookB wU wU (hmB) (hXI) wU ?_); rw [HAT.out]) | ((with_reducible refine wpList_pushL (y := ((al, (orbK p k j).length, cl) : SlH)) 1 E_sls wU wU (hSq) wU cSlO ⟨rfl, rfl⟩ (by first | with_unfolding_all rfl | simp) wU (by first | omega | (simp; omega)) (by first | omega | (simp; omega)) ?_); intro v4 w4 hP))
       refine ⟨⟨k + 1, n', g, qs ++ [((al, (orbK p k j).length, cl), orbK p k j)], by omega, by go_num, by omega, ?_, ?_, ?_⟩, by simp [intOf]; omega⟩
       ·intro x h0 h1
        rw [HGS.out x h0 h1, cycK_out HIN.out, orb_eq HD.out]
        simp [orbK]
       ·rw [List.map_append, HQ.out, cycK_out HIN.out, orb_eq HD.out]; rfl
       ·have hP2 := SL.pickA (K := [_, _, _, _]) (M := qs.map inP) hP [1, 2, 3, 0] (by decide) (by simp) [_, _, _, _] rfl
        refine hP2.perm ?_
        rw [List.map_append, List.map_append]
        refine List.Perm.cons _ (List.Perm.cons _ (List.Perm.cons _ ?_))
        exact List.perm_append_comm (l₁ := [_])
   ·have hkn : k = N := by omega
    subst hkn
    go_wp2_with fail
    go_ret2
    refine ⟨_, qs, rfl, HQ.out, ?_⟩
    exact (SL.comm (K := [_]) (L := qs.map inP) (SL.pickA (K := [_, _, _]) (M := qs.map inP) hSL [0] (by decide) (by simp) [_] rfl)).comm
 ·obtain ⟨E, hE⟩ : ∃ E, E = macE m := ⟨_, rfl⟩
  rw [if_neg he]
  rw [← hE] at HK he ⊢
  have hne : (E != 0) = true := by simpa using he
  have HC := hid HK
  clear HK he hE
  go_enter Tryz.func41, Tryz.ntmps41
  go_wp2_with fail
  refine (HC.out _ R1).mono ?_
  rintro e w1 ⟨rfl, b1⟩
  have hS1 := (hS.mono b1).nilS (α := SlH) (c := cSl) (sz := 1) (e := 22) cSlS
  go_wp2_with fail
  go_ret2
  exact ⟨_, [], rfl, rfl, hS1.pick [0] (by decide) _ rfl⟩
end Go.Proofs.YtoebgfgihfjnnaaGreatDoor

namespace Go.Proofs.YtoebgfgihfjnnaaGreatDoor
open Go.RowKit
set_option maxHeartbeats 8000000
set_option maxRecDepth 100000

theorem cloneI_any (a : Option Addr) (cap : Nat) (l : List Int) (w : World) (hS : Ints w a cap l) (hsm : l.length ≤ 1048576) :
  Calls Tryz.prog 109 #[.slice a l.length cap] w fun r w' => ∃ v, r = .returned v ∧ OwnI w.heap.size w' v l ∧ Below w.heap.size w w' := by
 have hcap := hS.le
 have hm := hS.max
 have heq := fun (w : World) (a : Option Addr) (n c : Nat) => Lib.run_eql_slice_nil (P := Tryz.prog) w 22 3 a n c 0 0 Tryz.underlying22
 cases a with
 | none =>
  have h0 : cap = 0 := hS.2.2.2.1 rfl
  have hl : l = [] := by
   cases l with
   | nil => rfl
   | cons x r => simp at hcap; omega
  subst hl
  go_enter Tryz.func109, Tryz.ntmps109
  go_wp2_with fail
  go_ret
  exact ⟨_, rfl, own_nil cIntS, Below.refl _ _⟩
 | some b =>
  go_enter Tryz.func109, Tryz.ntmps109
  go_wp2_with ((with_reducible refine wpList_app (B := w.heap.size) (l := []) (ys := l) E_ints wU wU (own_made0 cIntS w rfl (Nat.le_refl _)) (hS.alloc _) cIntO (by simp; omega) (by simp) (by simp; omega) ?_); intro v1 w1 ho1 hg1 _)
  go_ret
  refine ⟨v1, rfl, ho1, ?_⟩
  exact (bal (Below.refl _ _) _).grown hg1 (by simp) (fun k hk => by cases hk; exact Nat.le_refl _)

/-- the machine with the opposite turn. -/
def turnMac (m : MacV) : MacV := ⟨m.ring, m.gears, -m.turn, m.sw⟩
theorem mturned_any (m : MacV) (ad : Option Addr) (cap : Nat) (w : World) (hR : Ints w ad cap m.sw) (ht : m.turn = 1 ∨ m.turn = -1) (hs : m.sw.length ≤ 16) :
  Calls Tryz.prog 91 #[mV m ad cap] w fun r w' => ∃ a c, r = .returned (mV (turnMac m) a c) ∧ OwnI w.heap.size w' (.slice a m.sw.length c) m.sw ∧ Below w.heap.size w w' := by
 have hcap := hR.le
 have hmx := hR.max
 have hS := ((SL.nil w).box (.cells (mC m ad cap) 24)).box (.cells #[.bool false, .int .i64 0, .int .i64 0, .slice none 0 0] 24)
 simp only [World.size_alloc] at hS
 have q1 := (hS.blk 1 rfl).1
 have k0 := hS.cell 1 rfl 0 rfl
 have k1 := hS.cell 1 rfl 1 rfl
 have k2 := hS.cell 1 rfl 2 rfl
 have k3 := hS.cell 1 rfl 3 rfl
 have hb := hS.b
 have hw : IntKind.i64.wrap (-m.turn) = -m.turn := IntWalk.i64_in _ (by omega)
 have CL := fun w h => cloneI_any ad cap m.sw w h (by omega)
 have HC := hid CL
 clear CL
 go_enter Tryz.func91, Tryz.ntmps91
 go_wp2_with fail
 obtain ⟨W, hW⟩ : ∃ W, W = (w.alloc (.cells (mC m ad cap) 24)).alloc (.cells #[.bool false, .int .i64 0, .int .i64 0, .slice none 0 0] 24) := ⟨_, rfl⟩
 rw [← hW] at hS q1 k0 k1 k2 k3 hb ⊢
 clear hW
 have kc : ∀ (V : World), (Below w.heap.size w V ∧ V.heap[w.heap.size]? = some (.cells (mC m ad cap) 24)) → ∀ j u, (mC m ad cap)[j]? = some u → V.cell? ⟨w.heap.size, j, none⟩ = some u := by
  rintro V ⟨_, h⟩ j u hu
  simp [World.cell?, h, hu]
 refine wp_regionK (C := (fun V => Below w.heap.size w V ∧ V.heap[w.heap.size]? = some (.cells (mC m ad cap) 24))) [0, 1, 2, 3, 4, 5, 6, 7, 8] [_, _, _, _, _, _, _, _, _] 3 (by simp only [List.map_cons, List.map_nil, List.getElem?_toArray]; rfl) rfl kR kR kR (⟨hb.drew, q1⟩) ?_
 refine ⟨_, yieldsK_val wU (fun w' => by with_unfolding_all exact rfl), ?_⟩
 go_frame
 refine ⟨_, yieldsK_cellC F_boolM (fun V h => kc V h 0 _ rfl) wU wU, ?_⟩
 go_frame
 refine ⟨_, yieldsK_val wU (fun w' => by with_unfolding_all exact rfl), ?_⟩
 go_frame
 refine ⟨_, yieldsK_cellC F_int (fun V h => kc V h 1 _ rfl) wU wU, ?_⟩
 go_frame
 refine ⟨_, yieldsK_val wU (fun w' => by with_unfolding_all exact rfl), ?_⟩
 go_frame
 refine ⟨_, yieldsK_cellC F_int (fun V h => kc V h 2 _ rfl) wU wU, ?_⟩
 go_frame
 refine ⟨.int .i64 (-m.turn), yieldsK_val wU (fun w' => by first | (go_simp; done) | (go_simp; rfl)), ?_⟩
 go_frame
 refine ⟨_, yieldsK_val wU (fun w' => by with_unfolding_all exact rfl), ?_⟩
 go_frame
 refine ⟨_, yieldsK_cellC F_sliceM (fun V h => kc V h 3 _ rfl) wU wU, ?_⟩
 go_frame
 unfold wpPureK
 have hVd : ({ W with drawn := W.drawn + 1 } : World) = W.drew := rfl
 rw [hVd]
 have b2 := hb.drew
 refine wpAnyC_on [9] kR (by simp) ?_
 simp only [List.forall_mem_cons, List.not_mem_nil, false_implies, implies_true, and_true]
 refine wpOp_call (f := 109) (args := #[.slice ad m.sw.length cap]) (by rw [List.getElem?_toArray]; rfl) wU (by first | (go_simp; done) | (simp [execOp, Act.eval, Result.andThen]; done) | (simp [execOp, Act.eval, Result.andThen]; rfl)) ?_
 refine (HC.out _ (hR.below b2)).mono ?_
 rintro e V1 ⟨v1, rfl, hO1, hb1⟩
 obtain ⟨a1, cap1, rfl, hr1, hf1, _⟩ := hO1.reps
 have hS2 := hS.drew.call (SL.ofOwn hO1 hb1)
 simp only [List.cons_append, List.nil_append] at hS2
 refine ⟨_, rfl, ⟨hS2.b, (hS2.blk 2 rfl).1⟩, ?_⟩
 go_frame
 refine wpAnyC_on [10] kR (by simp) ?_
 simp only [List.forall_mem_cons, List.not_mem_nil, false_implies, implies_true, and_true]
 refine wpOp_value (v := .agg #[.bool m.ring, .int .i64 m.gears, .int .i64 (-m.turn), .slice a1 m.sw.length cap1]) (w' := V1) (by rw [List.getElem?_toArray]; rfl) wU (by first | (go_simp; done) | (go_simp; rfl) | (simp [execOp, Act.eval, Result.andThen]; done)) ?_
 refine ⟨⟨hS2.b, (hS2.blk 2 rfl).1⟩, ?_⟩
 go_frame
 refine wpAnyC_on [11] kR (by simp) ?_
 simp only [List.forall_mem_cons, List.not_mem_nil, false_implies, implies_true, and_true]
 refine wpOp_of_list (by rw [List.getElem?_toArray]; rfl) ?_
 ((with_reducible refine wpList_stoR (us := #[.bool m.ring, .int .i64 m.gears, .int .i64 (-m.turn), .slice a1 m.sw.length cap1]) 1 wU wU (hS2) wU kR wU wU ?_); intro w3 hS3)
 refine ⟨⟨hS3.b, (hS3.blk 2 rfl).1⟩, ?_⟩
 go_frame
 refine wpAnyC_rest [] [] rfl rfl kR kR kR ⟨hS3.b, (hS3.blk 2 rfl).1⟩ ?_
 unfold wpPure
 refine of_wpList_nil (P := Tryz.prog) (ops := #[]) ?_
 go_wp2_with fail
 exact bodyPost_ret (results_cell rfl rfl A_mach kR (hS3.blk 1 rfl).1) rfl ⟨a1, cap1, rfl, hS3.own 0 rfl, hS3.b⟩
end Go.Proofs.YtoebgfgihfjnnaaGreatDoor

namespace Go.Proofs.YtoebgfgihfjnnaaGreatDoor
open Go.RowKit
set_option maxHeartbeats 8000000
set_option maxRecDepth 100000

/-- mapped with a function of the program, of which the places are given. -/
theorem mappedR_any  (g : Int → Int) (al : Option Addr) (cl : Nat) (l : List Int) (w : World) (hL : Ints w al cl l) (hn : l.length ≤ 1048576)
  (HF : ∀ x ∈ l, ∀ w', Below w.heap.size w w' → Calls Tryz.prog 92 #[.int .i64 x] w' fun r w'' => r = .returned (.int .i64 (g x)) ∧ Below w'.heap.size w' w'') :
  Calls Tryz.prog 69 #[.slice al l.length cl, .func (.func 92) #[] #[]] w fun r w' => ∃ v, r = .returned v ∧ OwnI w.heap.size w' v (l.map g) ∧ Below w.heap.size w w' := by
 have hcap := hL.le
 have hmx := hL.max
 have H := hid HF
 clear HF
 have hS := (SL.nil w).nilS (α := Int) (e := 3) cIntS
 go_enter Tryz.func69, Tryz.ntmps69
 go_wp2_with fail
 go_loopw [5, 10] (fun v i wr => ∃ k : Nat, k ≤ l.length ∧ i = .int .i64 k ∧ SL w.heap.size w wr [pOwn cInt 1 3 v ((l.take k).map g)]) (fun _ i _ => l.length - (intOf i).toNat)
 case atStart => exact ⟨0, by omega, rfl, hS⟩
 case round =>
  clear hS
  obtain ⟨k, hk, rfl, hSr⟩ := hrel
  have hLr := hL.below hSr.b
  by_cases hlt : k < l.length
  ·have hmem := atD_mem hlt
   have ht := take_snoc hlt
   have hlen : ((l.take k).map g).length ≤ 1048576 := by simp; omega
   obtain ⟨x, hx⟩ : ∃ x, x = atD 0 l k := ⟨_, rfl⟩
   rw [← hx] at hmem ht
   have HX := hid hx; have HT := hid ht
   clear hx ht
   go_wp2_with ((with_reducible refine wpList_idx _ 0 E_ints F_int cInt1 wU wU (hLr) oD oD (fun _ => wU) (fun _ => ?_)); rw [← HX.out])
   refine (H.out x hmem _ hSr.b).mono ?_
   rintro e w1 ⟨rfl, b1⟩
   have hS1 := hSr.mono b1
   go_wp2_with ((with_reducible refine wpList_pushL (y := (g x)) 0 E_ints wU wU (hS1) wU cIntO ⟨rfl, rfl⟩ (by first | with_unfolding_all rfl | simp) wU (by first | omega | (simp; omega)) (by first | omega | (simp; omega)) ?_); intro v2 w2 hS2)
   exact ⟨⟨k + 1, by omega, by go_num, by rw [HT.out, List.map_append]; exact hS2⟩, by simp [intOf]; omega⟩
  ·have hkk : k = l.length := by omega
   subst hkk
   rw [List.take_length] at hSr
   go_wp2_with fail
   go_ret
   exact ⟨_, rfl, hSr.own 0 rfl, hSr.b⟩

/-- mapped with a function of the program, of which the places are given. -/
theorem mappedO_any (rv : Value) (g : Int → Int) (al : Option Addr) (cl : Nat) (l : List Int) (w : World) (hL : Ints w al cl l) (hn : l.length ≤ 1048576)
  (HF : ∀ x ∈ l, ∀ w', Below w.heap.size w w' → Calls Tryz.prog 93 #[rv, .int .i64 x] w' fun r w'' => r = .returned (.int .i64 (g x)) ∧ Below w'.heap.size w' w'') :
  Calls Tryz.prog 69 #[.slice al l.length cl, .func (.func 93) #[rv] #[]] w fun r w' => ∃ v, r = .returned v ∧ OwnI w.heap.size w' v (l.map g) ∧ Below w.heap.size w w' := by
 have hcap := hL.le
 have hmx := hL.max
 have H := hid HF
 clear HF
 have hS := (SL.nil w).nilS (α := Int) (e := 3) cIntS
 go_enter Tryz.func69, Tryz.ntmps69
 go_wp2_with fail
 go_loopw [5, 10] (fun v i wr => ∃ k : Nat, k ≤ l.length ∧ i = .int .i64 k ∧ SL w.heap.size w wr [pOwn cInt 1 3 v ((l.take k).map g)]) (fun _ i _ => l.length - (intOf i).toNat)
 case atStart => exact ⟨0, by omega, rfl, hS⟩
 case round =>
  clear hS
  obtain ⟨k, hk, rfl, hSr⟩ := hrel
  have hLr := hL.below hSr.b
  by_cases hlt : k < l.length
  ·have hmem := atD_mem hlt
   have ht := take_snoc hlt
   have hlen : ((l.take k).map g).length ≤ 1048576 := by simp; omega
   obtain ⟨x, hx⟩ : ∃ x, x = atD 0 l k := ⟨_, rfl⟩
   rw [← hx] at hmem ht
   have HX := hid hx; have HT := hid ht
   clear hx ht
   go_wp2_with ((with_reducible refine wpList_idx _ 0 E_ints F_int cInt1 wU wU (hLr) oD oD (fun _ => wU) (fun _ => ?_)); rw [← HX.out])
   refine (H.out x hmem _ hSr.b).mono ?_
   rintro e w1 ⟨rfl, b1⟩
   have hS1 := hSr.mono b1
   go_wp2_with ((with_reducible refine wpList_pushL (y := (g x)) 0 E_ints wU wU (hS1) wU cIntO ⟨rfl, rfl⟩ (by first | with_unfolding_all rfl | simp) wU (by first | omega | (simp; omega)) (by first | omega | (simp; omega)) ?_); intro v2 w2 hS2)
   exact ⟨⟨k + 1, by omega, by go_num, by rw [HT.out, List.map_append]; exact hS2⟩, by simp [intOf]; omega⟩
  ·have hkk : k = l.length := by omega
   subst hkk
   rw [List.take_length] at hSr
   go_wp2_with fail
   go_ret
   exact ⟨_, rfl, hSr.own 0 rfl, hSr.b⟩

/-- mapped with a function of the program, of which the places are given. -/
theorem mappedN_any (rv : Value) (g : Int → Int) (al : Option Addr) (cl : Nat) (l : List Int) (w : World) (hL : Ints w al cl l) (hn : l.length ≤ 1048576)
  (HF : ∀ x ∈ l, ∀ w', Below w.heap.size w w' → Calls Tryz.prog 70 #[rv, .int .i64 x] w' fun r w'' => r = .returned (.int .i64 (g x)) ∧ Below w'.heap.size w' w'') :
  Calls Tryz.prog 69 #[.slice al l.length cl, .func (.func 70) #[rv] #[]] w fun r w' => ∃ v, r = .returned v ∧ OwnI w.heap.size w' v (l.map g) ∧ Below w.heap.size w w' := by
 have hcap := hL.le
 have hmx := hL.max
 have H := hid HF
 clear HF
 have hS := (SL.nil w).nilS (α := Int) (e := 3) cIntS
 go_enter Tryz.func69, Tryz.ntmps69
 go_wp2_with fail
 go_loopw [5, 10] (fun v i wr => ∃ k : Nat, k ≤ l.length ∧ i = .int .i64 k ∧ SL w.heap.size w wr [pOwn cInt 1 3 v ((l.take k).map g)]) (fun _ i _ => l.length - (intOf i).toNat)
 case atStart => exact ⟨0, by omega, rfl, hS⟩
 case round =>
  clear hS
  obtain ⟨k, hk, rfl, hSr⟩ := hrel
  have hLr := hL.below hSr.b
  by_cases hlt : k < l.length
  ·have hmem := atD_mem hlt
   have ht := take_snoc hlt
   have hlen : ((l.take k).map g).length ≤ 1048576 := by simp; omega
   obtain ⟨x, hx⟩ : ∃ x, x = atD 0 l k := ⟨_, rfl⟩
   rw [← hx] at hmem ht
   have HX := hid hx; have HT := hid ht
   clear hx ht
   go_wp2_with ((with_reducible refine wpList_idx _ 0 E_ints F_int cInt1 wU wU (hLr) oD oD (fun _ => wU) (fun _ => ?_)); rw [← HX.out])
   refine (H.out x hmem _ hSr.b).mono ?_
   rintro e w1 ⟨rfl, b1⟩
   have hS1 := hSr.mono b1
   go_wp2_with ((with_reducible refine wpList_pushL (y := (g x)) 0 E_ints wU wU (hS1) wU cIntO ⟨rfl, rfl⟩ (by first | with_unfolding_all rfl | simp) wU (by first | omega | (simp; omega)) (by first | omega | (simp; omega)) ?_); intro v2 w2 hS2)
   exact ⟨⟨k + 1, by omega, by go_num, by rw [HT.out, List.map_append]; exact hS2⟩, by simp [intOf]; omega⟩
  ·have hkk : k = l.length := by omega
   subst hkk
   rw [List.take_length] at hSr
   go_wp2_with fail
   go_ret
   exact ⟨_, rfl, hSr.own 0 rfl, hSr.b⟩

def mirM (s : Int) : Int := if s % 4 = 1 then s + 2 else if s % 4 = 3 then s - 2 else s
theorem mir1_any (s : Int) (w : World) (h0 : 0 ≤ s) (h1 : s < 64) :
  Calls Tryz.prog 92 #[.int .i64 s] w fun r w' => r = .returned (.int .i64 (mirM s)) ∧ Below w.heap.size w w' := by
 obtain ⟨q, hq⟩ : ∃ q, q = s % 4 := ⟨_, rfl⟩
 have htm : s.tmod 4 = q := by rw [hq, Int.tmod_eq_emod_of_nonneg h0]
 have hm : mirM s = if q = 1 then s + 2 else if q = 3 then s - 2 else s := by unfold mirM; rw [hq]
 by_cases c1 : q = 1
 ·have d1 : (q == 1) = true := by simpa using c1
  have hv : mirM s = s - 1 + 3 := by rw [hm, if_pos c1]; omega
  have HV := hid hv
  clear hm hv hq c1
  go_enter Tryz.func92, Tryz.ntmps92
  go_wp2_with fail
  go_ret
  exact ⟨by rw [HV.out]; rfl, Below.refl _ _⟩
 have d1 : (q == 1) = false := by simpa using c1
 by_cases c3 : q = 3
 ·have d3 : (q == 3) = true := by simpa using c3
  have hv : mirM s = s - 3 + 1 := by rw [hm, if_neg c1, if_pos c3]; omega
  have HV := hid hv
  have hs3 : 3 ≤ s := by omega
  clear hm hv hq c1 c3
  go_enter Tryz.func92, Tryz.ntmps92
  go_wp2_with fail
  go_ret
  exact ⟨by rw [HV.out]; rfl, Below.refl _ _⟩
 ·have d3 : (q == 3) = false := by simpa using c3
  have hv : mirM s = s := by rw [hm, if_neg c1, if_neg c3]
  have HV := hid hv
  clear hm hv hq c1 c3
  go_enter Tryz.func92, Tryz.ntmps92
  go_wp2_with fail
  go_ret
  exact ⟨by rw [HV.out]; rfl, Below.refl _ _⟩
end Go.Proofs.YtoebgfgihfjnnaaGreatDoor

namespace Go.Proofs.YtoebgfgihfjnnaaGreatDoor
open Go.RowKit
set_option maxHeartbeats 8000000
set_option maxRecDepth 100000

def noM : MacV := ⟨false, 0, 0, []⟩
theorem results_cellSS {P : Program} {w : World} {fn : Func} {tmps : Array Value} {t T k s s2 : Nat} {us : Array Value} {T' : TypeId} {fr : Nat × Nat} {v v2 : Value} (h : fn.results = #[.cell t T, .tmp s, .tmp s2]) (ht : tmps.getD t undef = .pointer (some ⟨k, 0, none⟩)) (hs : tmps.getD s undef = v) (hs2 : tmps.getD s2 undef = v2) (hu : Aggr P T) (hz : (P.info? T).map (·.size) = some us.size) (hb : w.heap[k]? = some (.cells us T' fr)) :
  (results fn tmps).run P w = .ok (.tuple #[.agg us, v, v2]) w := by
 obtain ⟨d, hd, hdd⟩ := hu
 have := run_loadVar_row (P := P) w k T' T us fr d hb hd (by cases d <;> first | exact hdd | rfl | cases hdd) hz
 simp only [Array.getD_eq_getD_getElem?] at ht hs hs2
 simp [results, h, ht, hs, hs2, asAddr, this]

theorem mMirrored_any (m : MacV) (ad : Option Addr) (cap : Nat) (al : Option Addr) (cl : Nat) (l : List Int) (w : World) (hR : Ints w ad cap m.sw) (hL : Ints w al cl l) (HK : ChkL m ad cap al cl l) :
  Calls Tryz.prog 36 #[mV m ad cap, .slice al l.length cl] w fun r w' => ∃ a c v, r = .returned (.tuple #[mV (if loadE m l = 0 then turnMac m else noM) a c, v, .int .i64 (loadE m l)]) ∧ SL w.heap.size w w' [pOwn cInt 1 3 (.slice a (if loadE m l = 0 then m.sw else []).length c) (if loadE m l = 0 then m.sw else []), pOwn cInt 1 3 v (if loadE m l = 0 then l.map mirM else [])] := by
 have hS := ((SL.nil w).box (.cells (mC m ad cap) 24)).box (.cells #[.bool false, .int .i64 0, .int .i64 0, .slice none 0 0] 24)
 simp only [World.size_alloc] at hS
 have R1 := hR.below hS.b
 have L1 := hL.below hS.b
 unfold ChkL at HK
 by_cases he : loadE m l = 0
 ·have hok := loadE_zero he
  have hhi := hok.ok.hi
  have hfew := hok.few
  have CT := fun w h => mturned_any m ad cap w h hok.ok.turn (by have := hok.ok.many; omega)
  have CM := fun w h => mappedR_any mirM al cl l w h (by omega) (fun x hx w' hw' => mir1_any x w' (hok.rng x hx).1 (by have := (hok.rng x hx).2; omega))
  rw [if_pos he, if_pos he, if_pos he]
  rw [he] at HK ⊢
  have HC := hid HK; have HT := hid CT; have HM := hid CM
  clear HK CT CM hok he
  go_enter Tryz.func36, Tryz.ntmps36
  go_wp2_with fail
  refine (HC.out _ R1 L1).mono ?_
  rintro e w1 ⟨rfl, b1⟩
  have hS1 := hS.mono b1
  have q1 := (hS1.blk 1 rfl).1
  go_wp2_with (with_reducible refine wpList_ldS (n := 4) (us := mC m ad cap) A_mach kR wU wU (by assumption) wU wU ?_)
  refine (HT.out _ (hR.below hS1.b)).mono ?_
  rintro e w2 ⟨a, c, rfl, ho, b2⟩
  have hS2 := hS1.call (SL.ofOwn ho b2)
  simp only [List.cons_append, List.nil_append] at hS2
  clear q1
  go_wp2_with fail
  refine (HM.out _ (hL.below hS2.b)).mono ?_
  rintro e w3 ⟨v, rfl, hv, b3⟩
  have hS3 := hS2.call (SL.ofOwn hv b3)
  simp only [List.cons_append, List.nil_append] at hS3
  go_wp2_with ((with_reducible refine wpList_stoR (us := #[.bool m.ring, .int .i64 m.gears, .int .i64 (-m.turn), .slice a m.sw.length c]) 2 wU wU (hS3) wU kR wU wU ?_); intro w4 hS4)
  exact bodyPost_ret (results_cellSS rfl rfl rfl rfl A_mach kR (hS4.blk 2 rfl).1) rfl ⟨a, c, v, rfl, hS4.pick [1, 0] (by decide) _ rfl⟩
 ·obtain ⟨E, hE⟩ : ∃ E, E = loadE m l := ⟨_, rfl⟩
  rw [if_neg he, if_neg he, if_neg he]
  rw [← hE] at HK he ⊢
  have hne : (E != 0) = true := by simpa using he
  have HC := hid HK
  clear HK hE he
  go_enter Tryz.func36, Tryz.ntmps36
  go_wp2_with fail
  refine (HC.out _ R1 L1).mono ?_
  rintro e w1 ⟨rfl, b1⟩
  have hS1 := hS.mono b1
  go_wp2_with ((with_reducible refine wpList_stoR (us := #[.bool false, .int .i64 0, .int .i64 0, .slice none 0 0]) 0 wU wU (hS1) wU kR wU wU ?_); intro w4 hS4)
  have hS5 := (hS4.nilS (α := Int) (c := cInt) (sz := 1) (e := 3) cIntS).nilS (α := Int) (c := cInt) (sz := 1) (e := 3) cIntS
  exact bodyPost_ret (results_cellSS rfl rfl rfl rfl A_mach kR (hS4.blk 0 rfl).1) rfl ⟨none, 0, _, rfl, hS5.pick [1, 0] (by decide) _ rfl⟩
end Go.Proofs.YtoebgfgihfjnnaaGreatDoor

namespace Go.Proofs.YtoebgfgihfjnnaaGreatDoor
open Go.RowKit
set_option maxHeartbeats 8000000
set_option maxRecDepth 100000

section
variable {P : Program} {ops : Array Oper} {a : Act} {ty : TypeId} {p : String} {af : Array Edge} {g : Option (Nat × Bool)} {d : Tmp} {C : World → Prop}
theorem yieldsK_blkC {e : TypeId} {s : Operand} {b n : Nat} {us : Array Value} {T : TypeId} {fr : Nat × Nat} (hF : Aggr P e) (hn : (P.info? e).map (·.size) = some n) (hb : ∀ w, C w → w.heap[b]? = some (.cells us T fr)) (hz : us.size = n)
   (hg : Region.wanted (⟨some d, .load e s, ty, p, af, g⟩ : Oper) (yielded ops a.tmps) = true) (hs : a.eval s = .pointer (some ⟨b, 0, none⟩)) : YieldsK P ops C ⟨some d, .load e s, ty, p, af, g⟩ (.agg us) a := by
 obtain ⟨i, hi, hs2⟩ : ∃ i, P.info? e = some i ∧ i.size = n := by
  cases hi : P.info? e with
  | none => rw [hi] at hn; cases hn
  | some i => rw [hi] at hn; exact ⟨i, rfl, by simpa using hn⟩
 refine .inl ⟨hg, fun w' hw' => ?_⟩
 have hb2 := hb w' hw'
 have := run_loadAt_agg (a := ⟨b, 0, none⟩) w' hF hi (cs := us.toList) (by simp [hs2, hz]) (fun j v hj => by
  have hj2 : us[j]? = some v := by simpa using hj
  rw [Addr.add_z]
  simp [World.cell?, hb2, hj2])
 simp [execOp, hs, this, Result.andThen]
end

theorem mBackwards_any (m : MacV) (ad : Option Addr) (cap : Nat) (al : Option Addr) (cl : Nat) (l : List Int) (w : World) (hR : Ints w ad cap m.sw) (hL : Ints w al cl l) (HK : ChkL m ad cap al cl l) :
  Calls Tryz.prog 37 #[mV m ad cap, .slice al l.length cl] w fun r w' => ∃ a c v, r = .returned (.tuple #[mV (if loadE m l = 0 then turnMac m else noM) a c, v, .int .i64 (loadE m l)]) ∧ SL w.heap.size w w' [pOwn cInt 1 3 (.slice a (if loadE m l = 0 then m.sw else []).length c) (if loadE m l = 0 then m.sw else []), pOwn cInt 1 3 v (if loadE m l = 0 then l.map (overM m) else [])] := by
 have hS := ((SL.nil w).box (.cells (mC m ad cap) 24)).box (.cells #[.bool false, .int .i64 0, .int .i64 0, .slice none 0 0] 24)
 simp only [World.size_alloc] at hS
 have R1 := hR.below hS.b
 have L1 := hL.below hS.b
 unfold ChkL at HK
 by_cases he : loadE m l = 0
 ·have hok := loadE_zero he
  have hhi := hok.ok.hi
  have hfew := hok.few
  have CT := fun w h => mturned_any m ad cap w h hok.ok.turn (by have := hok.ok.many; omega)
  have CM := fun w h (h2 : Ints w ad cap m.sw) => mappedO_any (mV m ad cap) (overM m) al cl l w h (by omega) (fun x hx w' hw' => over_any m ad cap x w' (h2.below hw') hhi (hok.rng x hx).1 (hok.rng x hx).2)
  rw [if_pos he, if_pos he, if_pos he]
  rw [he] at HK ⊢
  have HC := hid HK; have HT := hid CT; have HM := hid CM
  clear HK CT CM hok he
  go_enter Tryz.func37, Tryz.ntmps37
  go_wp2_with fail
  refine (HC.out _ R1 L1).mono ?_
  rintro e w1 ⟨rfl, b1⟩
  have hS1 := hS.mono b1
  have q1 := (hS1.blk 1 rfl).1
  go_wp2_with fail
  refine wp_regionK (C := (fun V => Below w.heap.size w V ∧ V.heap[w.heap.size]? = some (.cells (mC m ad cap) 24))) [0, 2, 3, 4] [_, _, _, _] 5 (by simp only [List.map_cons, List.map_nil, List.getElem?_toArray]; rfl) rfl kR kR kR (⟨hS1.b.drew, q1⟩) ?_
  refine ⟨_, yieldsK_blkC (n := 4) A_mach kR (fun V h => h.2) rfl wU wU, ?_⟩
  go_frame
  refine ⟨_, yieldsK_val wU (fun w' => by with_unfolding_all exact rfl), ?_⟩
  go_frame
  refine ⟨_, yieldsK_blkC (n := 4) A_mach kR (fun V h => h.2) rfl wU wU, ?_⟩
  go_frame
  refine ⟨.func (.func 93) #[mV m ad cap] #[], yieldsK_val wU (fun w' => by first | (go_simp; done) | (go_simp; rfl)), ?_⟩
  go_frame
  unfold wpPureK
  have hVd : ({ w1 with drawn := w1.drawn + 1 } : World) = w1.drew := rfl
  rw [hVd]
  have b2 := hS1.b.drew
  refine wpAnyC_on [1] kR (by simp) ?_
  simp only [List.forall_mem_cons, List.not_mem_nil, false_implies, implies_true, and_true]
  refine wpOp_call (f := 91) (args := #[mV m ad cap]) (by rw [List.getElem?_toArray]; rfl) wU (by first | (go_simp; done) | (simp [execOp, Act.eval, Result.andThen]; done) | (simp [execOp, Act.eval, Result.andThen]; rfl)) ?_
  refine (HT.out _ (hR.below b2)).mono ?_
  rintro e w2 ⟨a, c, rfl, ho, b3⟩
  have hS2 := hS1.drew.call (SL.ofOwn ho b3)
  simp only [List.cons_append, List.nil_append] at hS2
  refine ⟨_, rfl, ⟨hS2.b, (hS2.blk 2 rfl).1⟩, ?_⟩
  go_frame
  refine wpAnyC_on [5] kR (by simp) ?_
  simp only [List.forall_mem_cons, List.not_mem_nil, false_implies, implies_true, and_true]
  refine wpOp_call (f := 69) (args := #[.slice al l.length cl, .func (.func 93) #[mV m ad cap] #[]]) (by rw [List.getElem?_toArray]; rfl) wU (by first | (go_simp; done) | (simp [execOp, Act.eval, Result.andThen]; done) | (simp [execOp, Act.eval, Result.andThen]; rfl)) ?_
  refine (HM.out _ (hL.below hS2.b) (hR.below hS2.b)).mono ?_
  rintro e w3 ⟨v, rfl, hv, b4⟩
  have hS3 := hS2.call (SL.ofOwn hv b4)
  simp only [List.cons_append, List.nil_append] at hS3
  refine ⟨_, rfl, ⟨hS3.b, (hS3.blk 3 rfl).1⟩, ?_⟩
  go_frame
  refine wpAnyC_on [6] kR (by simp) ?_
  simp only [List.forall_mem_cons, List.not_mem_nil, false_implies, implies_true, and_true]
  refine wpOp_of_list (by rw [List.getElem?_toArray]; rfl) ?_
  ((with_reducible refine wpList_stoR (us := #[.bool m.ring, .int .i64 m.gears, .int .i64 (-m.turn), .slice a m.sw.length c]) 2 wU wU (hS3) wU kR wU wU ?_); intro w4 hS4)
  refine ⟨⟨hS4.b, (hS4.blk 3 rfl).1⟩, ?_⟩
  go_frame
  refine wpAnyC_rest [7, 8] [_, _] rfl (by simp only [List.map_cons, List.map_nil, List.getElem?_toArray]; rfl) kR kR kR (⟨hS4.b, (hS4.blk 3 rfl).1⟩) ?_
  repeat (refine ⟨_, .inl ⟨by with_unfolding_all rfl, fun w' _ => by with_unfolding_all exact rfl⟩, ?_⟩; go_frame)
  unfold wpPure
  refine of_wpList_nil (P := Tryz.prog) (ops := #[]) ?_
  go_wp2_with fail
  exact bodyPost_ret (results_cellSS rfl rfl rfl rfl A_mach kR (hS4.blk 2 rfl).1) rfl ⟨a, c, v, rfl, hS4.pick [1, 0] (by decide) _ rfl⟩
 ·obtain ⟨E, hE⟩ : ∃ E, E = loadE m l := ⟨_, rfl⟩
  rw [if_neg he, if_neg he, if_neg he]
  rw [← hE] at HK he ⊢
  have hne : (E != 0) = true := by simpa using he
  have HC := hid HK
  clear HK hE he
  go_enter Tryz.func37, Tryz.ntmps37
  go_wp2_with fail
  refine (HC.out _ R1 L1).mono ?_
  rintro e w1 ⟨rfl, b1⟩
  have hS1 := hS.mono b1
  go_wp2_with ((with_reducible refine wpList_stoR (us := #[.bool false, .int .i64 0, .int .i64 0, .slice none 0 0]) 0 wU wU (hS1) wU kR wU wU ?_); intro w4 hS4)
  have hS5 := (hS4.nilS (α := Int) (c := cInt) (sz := 1) (e := 3) cIntS).nilS (α := Int) (c := cInt) (sz := 1) (e := 3) cIntS
  exact bodyPost_ret (results_cellSS rfl rfl rfl rfl A_mach kR (hS4.blk 0 rfl).1) rfl ⟨none, 0, _, rfl, hS5.pick [1, 0] (by decide) _ rfl⟩
end Go.Proofs.YtoebgfgihfjnnaaGreatDoor

namespace Go.Proofs.YtoebgfgihfjnnaaGreatDoor
open Go.RowKit
set_option maxHeartbeats 8000000
set_option maxRecDepth 100000
theorem pairsAt_succ {l : List Int} {i j : Nat} (h : j < l.length) : pairsAt l i (j + 1) = pairsAt l i j ++ [(atD 0 l i, atD 0 l j)] := by
 unfold pairsAt
 rw [take_snoc h, List.map_append, List.append_assoc]
 rfl
theorem min_at (f : Int × Int → Int) {l : List Int} {i j : Nat} (h : j < l.length) : minF f (pairsAt l i (j + 1)) = if 0 ≤ f (atD 0 l i, atD 0 l j) ∧ (minF f (pairsAt l i j) < 0 ∨ f (atD 0 l i, atD 0 l j) < minF f (pairsAt l i j)) then f (atD 0 l i, atD 0 l j) else minF f (pairsAt l i j) := by
 rw [pairsAt_succ h, minF_snoc]
theorem ne_atI {l : List Int} (h : l.Nodup) {i j : Nat} (hi : i < l.length) (hj : j < l.length) (hij : j < i) : atD 0 l j ≠ atD 0 l i := by
 have ei : atD 0 l i = l[i] := by simp [atD, hi]
 have ej : atD 0 l j = l[j] := by simp [atD, hj]
 rw [ei, ej]
 intro e
 have := (List.getElem_inj h).1 e
 omega
theorem rNow_any (m : MacV) (ad : Option Addr) (cap : Nat) (al : Option Addr) (cl : Nat) (l : List Int) (w : World) (hL : Ints w al cl l) (hg0 : 1 ≤ m.gears) (hg : m.gears ≤ 16) (hl : ∀ x ∈ l, 0 ≤ x ∧ x < 4 * m.gears) (hn : l.length ≤ 64) (hnd : l.Nodup) :
  Calls Tryz.prog 19 #[mV m ad cap, .slice al l.length cl] w fun r w' => r = .returned (.int .i64 (nowM m l)) ∧ Below w.heap.size w w' := by
 have hcap := hL.le
 have hmx := hL.max
 have hS := (SL.nil w).box (.cells (mC m ad cap) 25)
 have HIN : Hid (∀ k : Nat, k < l.length → 0 ≤ atD 0 l k ∧ atD 0 l k < 4 * m.gears) := hid fun k hk => atD_in hl hk
 have HNE : Hid (∀ i j : Nat, i < l.length → j < i → atD 0 l j ≠ atD 0 l i) := hid fun i j hi hj => ne_atI hnd hi (by omega) hj
 have HOA : Hid (∀ (x : Int) w, 0 ≤ x → x < 4 * m.gears → _) := hid fun x w h0 h1 => rOther_any m ad cap x w hg0 hg h0 h1
 have HPA : Hid (∀ (x : Int) w, 0 ≤ x → x < 4 * m.gears → _) := hid fun x w h0 h1 => rPlace_any m ad cap x w hg h0 h1
 have HMA : Hid (∀ i j : Nat, j < l.length → _) := hid fun i j h => min_at (hereN m) (l := l) (i := i) (j := j) h
 have HE : Hid (nowM m l = minF (hereN m) (pairsTo l l.length)) := hid rfl
 rw [HE.out]
 clear hl hnd
 obtain ⟨F, hF⟩ : ∃ F : List (Int × Int) → Int, ∀ ps, F ps = minF (hereN m) ps := ⟨_, fun _ => rfl⟩
 have HF := hid hF
 rw [← hF]
 clear hF
 have hF0 : F (pairsTo l 0) = -1 := by rw [HF.out]; rfl
 have HF0 := hid hF0
 clear hF0
 go_enter Tryz.func19, Tryz.ntmps19
 go_wp2_with fail
 go_loopw [5, 6, 7] (fun bo i _ wr => ∃ k : Nat, k ≤ l.length ∧ bo = .int .i64 (F (pairsTo l k)) ∧ i = .int .i64 k ∧ SL w.heap.size w wr [pBlk w.heap.size (.cells (mC m ad cap) 25)]) (fun _ i _ _ => l.length - (intOf i).toNat)
 case atStart => exact ⟨0, by omega, by rw [HF0.out], rfl, hS⟩
 case round =>
  clear hS
  obtain ⟨k, hk, rfl, rfl, hSr⟩ := hrel
  by_cases hlt : k < l.length
  ·go_wp2_with fail
   go_loopw [5, 7] (fun bo i wq => ∃ j : Nat, j ≤ k ∧ bo = .int .i64 (F (pairsAt l k j)) ∧ i = .int .i64 j ∧ SL w.heap.size w wq [pBlk w.heap.size (.cells (mC m ad cap) 25)]) (fun _ i _ => k - (intOf i).toNat)
   case atStart => exact ⟨0, by omega, by rw [pairsAt_zero], rfl, hSr⟩
   case round =>
    clear hSr
    obtain ⟨j, hj, rfl, rfl, hSq⟩ := hrel
    by_cases hjk : j < k
    ·have hst := HMA.out k j (by omega)
     rw [← HF.out, ← HF.out] at hst
     have hix := HIN.out k hlt
     have hiy := HIN.out j (by omega)
     have hoh := other_hit hix.1 hix.2 hiy.1 hiy.2 (HNE.out k j hlt hjk)
     have CO := fun w => HOA.out (atD 0 l k) w hix.1 hix.2
     have CP := fun w => HPA.out (atD 0 l k) w hix.1 hix.2
     have hhe : hereN m (atD 0 l k, atD 0 l j) = if hitM m (atD 0 l k) (atD 0 l j) then placeM m (atD 0 l k) else -1 := rfl
     rw [hhe] at hst
     have hpl := hit_place (m := m) (x := atD 0 l k) (y := atD 0 l j)
     obtain ⟨X, hX⟩ : ∃ X, X = atD 0 l k := ⟨_, rfl⟩
     obtain ⟨Y, hY⟩ : ∃ Y, Y = atD 0 l j := ⟨_, rfl⟩
     obtain ⟨B, hB⟩ : ∃ B, B = F (pairsAt l k j) := ⟨_, rfl⟩
     rw [← hB] at hst ⊢
     rw [← hX] at hst hoh CO CP hpl
     rw [← hY] at hst hoh hpl
     obtain ⟨O, hO⟩ : ∃ O, O = otherM m X := ⟨_, rfl⟩
     obtain ⟨Pl, hPl⟩ : ∃ P, P = placeM m X := ⟨_, rfl⟩
     rw [← hO] at CO hoh
     rw [← hPl] at CP hst hpl
     have HX := hid hX; have HY := hid hY; have HO := hid CO; have HP := hid CP
     have hLq := hL.below hSq.b
     have q2 := (hSq.blk 0 rfl).1
     have hkl : (k : Int) < l.length := by omega
     have hjl : (j : Int) < l.length := by omega
     clear hix hiy CO CP hhe hX hY hB hO hPl
     cases hh : hitM m X Y
     ·rw [hh] at hoh hst
      simp only [Bool.false_eq_true, if_false, show ¬ (0 : Int) ≤ -1 by decide, false_and] at hst
      have HST := hid hst
      clear hst hpl hh
      go_wp2_with fail
      refine wp_region_q kR kR ?_
      repeat (first | ((with_reducible refine wpQ_skip wU ?_); (try simp only [Act.put, pA, pB, pC])) | ((with_reducible refine wpB_loadS (n := 4) (us := mC m ad cap) A_rmach kR wU wU (by assumption) wU wU ?_); (try simp only [Act.put, pA, pB, pC])) | (((with_reducible refine wpB_idxW 0 E_ints F_int cInt1 wU (rfl) wU (hLq) oD oD (fun _ => wU) wU (fun _ => wU) (fun _ => ?_)); (try simp only [Act.put, pA, pB, pC]); (try simp only [cInt])); first | rw [← HX.out] | rw [← HY.out]) | ((with_reducible refine wpB_call (.int .i64 O) wU (fun w' => ?_) (fun w' hw' => HO.out w') ?_); (focus (go_simp; done)); (try simp only [Act.put, pA, pB, pC])) | ((with_reducible refine wpB_call (.int .i64 Pl) wU (fun w' => ?_) (fun w' hw' => HP.out w') ?_); (focus (go_simp; done)); (try simp only [Act.put, pA, pB, pC])) | (((refine wpQ_oneG ?_ wU (fun w' => ?_) ?_); rotate_left; (go_simp; rfl); (try simp only [Act.put, pA, pB, pC])); first | rw [hoh] | skip) |  ((with_reducible refine wpB_load (by first | exact F_int | exact F_u64s) wU wU (by assumption) wU ?_); (try simp only [Act.put, pA, pB, pC])) | ((refine wpQ_oneG ?_ wU (fun w' => ?_) ?_); rotate_left; (go_simp; rfl); (try simp only [Act.put, pA, pB, pC])))
      refine wpQuiet_nil ?_
      intro w5 hb5
      have hS5 := hSq.mono hb5
      clear q2
      go_wp2_with fail
      exact ⟨⟨j + 1, by omega, by rw [HST.out], by go_num, hS5⟩, by simp [intOf]; omega⟩
     ·rw [hh] at hoh hst
      simp only [if_true, hpl hh, true_and] at hst
      clear hpl hh
      by_cases hB0 : B < 0
      ·rw [if_pos (.inl hB0)] at hst
       have hbd : decide (B < 0) = true := decide_eq_true hB0
       have HST := hid hst
       clear hst hB0
       go_wp2_with fail
       refine wp_region_q kR kR ?_
       repeat (first | ((with_reducible refine wpQ_skip wU ?_); (try simp only [Act.put, pA, pB, pC])) | ((with_reducible refine wpB_loadS (n := 4) (us := mC m ad cap) A_rmach kR wU wU (by assumption) wU wU ?_); (try simp only [Act.put, pA, pB, pC])) | (((with_reducible refine wpB_idxW 0 E_ints F_int cInt1 wU (rfl) wU (hLq) oD oD (fun _ => wU) wU (fun _ => wU) (fun _ => ?_)); (try simp only [Act.put, pA, pB, pC]); (try simp only [cInt])); first | rw [← HX.out] | rw [← HY.out]) | ((with_reducible refine wpB_call (.int .i64 O) wU (fun w' => ?_) (fun w' hw' => HO.out w') ?_); (focus (go_simp; done)); (try simp only [Act.put, pA, pB, pC])) | ((with_reducible refine wpB_call (.int .i64 Pl) wU (fun w' => ?_) (fun w' hw' => HP.out w') ?_); (focus (go_simp; done)); (try simp only [Act.put, pA, pB, pC])) | (((refine wpQ_oneG ?_ wU (fun w' => ?_) ?_); rotate_left; (go_simp; rfl); (try simp only [Act.put, pA, pB, pC])); first | rw [hoh] | rw [hbd] | skip) |  ((with_reducible refine wpB_load (by first | exact F_int | exact F_u64s) wU wU (by assumption) wU ?_); (try simp only [Act.put, pA, pB, pC])) | ((refine wpQ_oneG ?_ wU (fun w' => ?_) ?_); rotate_left; (go_simp; rfl); (try simp only [Act.put, pA, pB, pC])))
       refine wpQuiet_nil ?_
       intro w5 hb5
       have hS5 := hSq.mono hb5
       clear q2
       go_wp2_with fail
       have hL5 := hL.below hS5.b
       have q5 := (hS5.blk 0 rfl).1
       refine wp_region_q kR kR ?_
       repeat (first | ((with_reducible refine wpB_loadS (n := 4) (us := mC m ad cap) A_rmach kR wU wU (by assumption) wU wU ?_); (try simp only [Act.put, pA, pB, pC])) | (((with_reducible refine wpB_idxW 0 E_ints F_int cInt1 wU (rfl) wU (hL5) oD oD (fun _ => wU) wU (fun _ => wU) (fun _ => ?_)); (try simp only [Act.put, pA, pB, pC]); (try simp only [cInt])); rw [← HX.out]) | ((with_reducible refine wpB_call (.int .i64 Pl) wU (fun w' => ?_) (fun w' hw' => HP.out w') ?_); (focus (go_simp; done)); (try simp only [Act.put, pA, pB, pC])) |  ((with_reducible refine wpB_load (by first | exact F_int | exact F_u64s) wU wU (by assumption) wU ?_); (try simp only [Act.put, pA, pB, pC])) | ((refine wpQ_oneG ?_ wU (fun w' => ?_) ?_); rotate_left; (go_simp; rfl); (try simp only [Act.put, pA, pB, pC])))
       refine wpQuiet_nil ?_
       intro w6 hb6
       have hS6 := hS5.mono hb6
       go_wp2_with fail
       exact ⟨⟨j + 1, by omega, by rw [HST.out], by go_num, hS6⟩, by simp [intOf]; omega⟩
      ·have hbd : decide (B < 0) = false := decide_eq_false hB0
       by_cases hPB : Pl < B
       ·rw [if_pos (.inr hPB)] at hst
        have hpd : decide (Pl < B) = true := decide_eq_true hPB
        have HST := hid hst
        clear hst hB0 hPB
        go_wp2_with fail
        refine wp_region_q kR kR ?_
        repeat (first | ((with_reducible refine wpQ_skip wU ?_); (try simp only [Act.put, pA, pB, pC])) | ((with_reducible refine wpB_loadS (n := 4) (us := mC m ad cap) A_rmach kR wU wU (by assumption) wU wU ?_); (try simp only [Act.put, pA, pB, pC])) | (((with_reducible refine wpB_idxW 0 E_ints F_int cInt1 wU (rfl) wU (hLq) oD oD (fun _ => wU) wU (fun _ => wU) (fun _ => ?_)); (try simp only [Act.put, pA, pB, pC]); (try simp only [cInt])); first | rw [← HX.out] | rw [← HY.out]) | ((with_reducible refine wpB_call (.int .i64 O) wU (fun w' => ?_) (fun w' hw' => HO.out w') ?_); (focus (go_simp; done)); (try simp only [Act.put, pA, pB, pC])) | ((with_reducible refine wpB_call (.int .i64 Pl) wU (fun w' => ?_) (fun w' hw' => HP.out w') ?_); (focus (go_simp; done)); (try simp only [Act.put, pA, pB, pC])) | (((refine wpQ_oneG ?_ wU (fun w' => ?_) ?_); rotate_left; (go_simp; rfl); (try simp only [Act.put, pA, pB, pC])); first | rw [hoh] | rw [hbd] | rw [hpd] | skip) |  ((with_reducible refine wpB_load (by first | exact F_int | exact F_u64s) wU wU (by assumption) wU ?_); (try simp only [Act.put, pA, pB, pC])) | ((refine wpQ_oneG ?_ wU (fun w' => ?_) ?_); rotate_left; (go_simp; rfl); (try simp only [Act.put, pA, pB, pC])))
        refine wpQuiet_nil ?_
        intro w5 hb5
        have hS5 := hSq.mono hb5
        clear q2
        go_wp2_with fail
        have hL5 := hL.below hS5.b
        have q5 := (hS5.blk 0 rfl).1
        refine wp_region_q kR kR ?_
        repeat (first | ((with_reducible refine wpB_loadS (n := 4) (us := mC m ad cap) A_rmach kR wU wU (by assumption) wU wU ?_); (try simp only [Act.put, pA, pB, pC])) | (((with_reducible refine wpB_idxW 0 E_ints F_int cInt1 wU (rfl) wU (hL5) oD oD (fun _ => wU) wU (fun _ => wU) (fun _ => ?_)); (try simp only [Act.put, pA, pB, pC]); (try simp only [cInt])); rw [← HX.out]) | ((with_reducible refine wpB_call (.int .i64 Pl) wU (fun w' => ?_) (fun w' hw' => HP.out w') ?_); (focus (go_simp; done)); (try simp only [Act.put, pA, pB, pC])) |  ((with_reducible refine wpB_load (by first | exact F_int | exact F_u64s) wU wU (by assumption) wU ?_); (try simp only [Act.put, pA, pB, pC])) | ((refine wpQ_oneG ?_ wU (fun w' => ?_) ?_); rotate_left; (go_simp; rfl); (try simp only [Act.put, pA, pB, pC])))
        refine wpQuiet_nil ?_
        intro w6 hb6
        have hS6 := hS5.mono hb6
        go_wp2_with fail
        exact ⟨⟨j + 1, by omega, by rw [HST.out], by go_num, hS6⟩, by simp [intOf]; omega⟩
       ·rw [if_neg (fun h => by rcases h with h | h; exact hB0 h; exact hPB h)] at hst
        have hpd : decide (Pl < B) = false := decide_eq_false hPB
        have HST := hid hst
        clear hst hB0 hPB
        go_wp2_with fail
        refine wp_region_q kR kR ?_
        repeat (first | ((with_reducible refine wpQ_skip wU ?_); (try simp only [Act.put, pA, pB, pC])) | ((with_reducible refine wpB_loadS (n := 4) (us := mC m ad cap) A_rmach kR wU wU (by assumption) wU wU ?_); (try simp only [Act.put, pA, pB, pC])) | (((with_reducible refine wpB_idxW 0 E_ints F_int cInt1 wU (rfl) wU (hLq) oD oD (fun _ => wU) wU (fun _ => wU) (fun _ => ?_)); (try simp only [Act.put, pA, pB, pC]); (try simp only [cInt])); first | rw [← HX.out] | rw [← HY.out]) | ((with_reducible refine wpB_call (.int .i64 O) wU (fun w' => ?_) (fun w' hw' => HO.out w') ?_); (focus (go_simp; done)); (try simp only [Act.put, pA, pB, pC])) | ((with_reducible refine wpB_call (.int .i64 Pl) wU (fun w' => ?_) (fun w' hw' => HP.out w') ?_); (focus (go_simp; done)); (try simp only [Act.put, pA, pB, pC])) | (((refine wpQ_oneG ?_ wU (fun w' => ?_) ?_); rotate_left; (go_simp; rfl); (try simp only [Act.put, pA, pB, pC])); first | rw [hoh] | rw [hbd] | rw [hpd] | skip) |  ((with_reducible refine wpB_load (by first | exact F_int | exact F_u64s) wU wU (by assumption) wU ?_); (try simp only [Act.put, pA, pB, pC])) | ((refine wpQ_oneG ?_ wU (fun w' => ?_) ?_); rotate_left; (go_simp; rfl); (try simp only [Act.put, pA, pB, pC])))
        refine wpQuiet_nil ?_
        intro w5 hb5
        have hS5 := hSq.mono hb5
        clear q2
        go_wp2_with fail
        exact ⟨⟨j + 1, by omega, by rw [HST.out], by go_num, hS5⟩, by simp [intOf]; omega⟩
    ·have hjk2 : j = k := by omega
     subst hjk2
     go_wp2_with fail
     exact ⟨⟨j + 1, by omega, by rw [pairsAt_last], by go_num, hSq⟩, by simp [intOf]; omega⟩
  ·have hkn : k = l.length := by omega
   subst hkn
   go_wp2_with fail
   go_ret
   exact ⟨rfl, hSr.b⟩
def meetV : Option (Nat × Int) → Value
 | some v => .tuple #[.int .i64 v.1, .int .i64 v.2]
 | none => .tuple #[.int .i64 (-1), .int .i64 0]
theorem rMeet_any (m : MacV) (ad : Option Addr) (cap : Nat) (al : Option Addr) (cl : Nat) (l : List Int) (w : World) (hR : Ints w ad cap m.sw) (hL : Ints w al cl l) (hg0 : 1 ≤ m.gears) (hg : m.gears ≤ 16) (hl : ∀ x ∈ l, 0 ≤ x ∧ x < 4 * m.gears) (hn : l.length ≤ 64) (hnd : l.Nodup) :
  Calls Tryz.prog 79 #[mV m ad cap, .slice al l.length cl] w fun r w' => r = .returned (meetV (firstM m l)) ∧ Below w.heap.size w w' := by
 have hcap := hL.le
 have hmx := hL.max
 have hS := (SL.nil w).box (.cells (mC m ad cap) 25)
 have HNE : Hid (∀ i j : Nat, i < l.length → j < i → atD 0 l j ≠ atD 0 l i) := hid fun i j hi hj => ne_atI hnd hi (by omega) hj
 have HIN : Hid (∀ k : Nat, k < l.length → 0 ≤ atD 0 l k ∧ atD 0 l k < 4 * m.gears) := hid fun k hk => atD_in hl hk
 have HCA : Hid (∀ (i j : Nat) w, Ints w ad cap m.sw → i < l.length → j < i → _) := hid fun i j w h hi hj => rpair_any m ad cap (atD 0 l i) (atD 0 l j) w h hg0 hg (HIN.out i hi).1 (HIN.out i hi).2 (HIN.out j (by omega)).1 (HIN.out j (by omega)).2 (fun e => HNE.out i j hi hj e.symm)
 have HMA : Hid (∀ i j : Nat, j < l.length → _) := hid fun i j h => min_at (pairN m) (l := l) (i := i) (j := j) h
 have HST : Hid (∀ (K : Nat) w, Ints w ad cap m.sw → Ints w al cl l → K ≤ 4096 → _) := hid fun K w h h2 hK => rSteps_any m ad cap al cl l K w h h2 hg0 hg hl hn (by omega)
 have HNW : Hid (∀ (K : Nat) a c w, Ints w a c (l.map fun s => itM m s K) → _) := hid fun K a c w h => rNow_any m ad cap a c (l.map fun s => itM m s K) w h hg0 hg (fun x hx => by
  obtain ⟨y, hy, rfl⟩ := List.mem_map.1 hx
  exact itM_rng (hl y hy).1 (hl y hy).2 K) (by simpa using hn) (by
  rw [List.nodup_iff_pairwise_ne, List.pairwise_map]
  refine (List.nodup_iff_pairwise_ne.1 hnd).imp_of_mem fun {x y} hx hy hxy e => hxy (itM_inj (hl x hx).1 (hl x hx).2 (hl y hy).1 (hl y hy).2 K e))
 have H4096 : Hid (∀ v, firstM m l = some v → v.1 ≤ 4096) := hid fun v hv => by
  obtain ⟨_, s2⟩ := foldF_spec m (pairsTo l l.length) none
  obtain ⟨_, _, k3⟩ := s2 _ hv
  rcases k3 with k3 | ⟨p, hp, e⟩
  ·cases k3
  ·obtain ⟨i, j, hji, hi, rfl⟩ := (pairsTo_mem (Nat.le_refl _)).1 hp
   obtain ⟨L, hL0, hL1, hLa, hLb⟩ := meet_per2 hg (HIN.out i hi).1 (HIN.out i hi).2 (HIN.out j (by omega)).1 (HIN.out j (by omega)).2
   have hs := meetM_spec m (atD 0 l i) (atD 0 l j)
   dsimp only at e
   rw [e] at hs
   obtain ⟨t1, _, t3⟩ := hs
   by_cases h : v.1 ≤ 4096
   ·exact h
   ·have hN := meet_none (m := m) hL0 hLa hLb (fun k hk => t3 k (by omega))
    have := (meetM_spec m (atD 0 l i) (atD 0 l j)).eq hN
    rw [e] at this; cases this
 have HE : Hid (meetN m l = minF (pairN m) (pairsTo l l.length)) := hid rfl
 have HN0 : Hid (firstM m l = none → meetN m l = -1) := hid meet_refN
 have HN1 : Hid (∀ v, firstM m l = some v → meetN m l = v.1 ∧ nowM m (l.map fun s => itM m s v.1) = v.2) := hid fun v hv => meet_refS hv
 generalize firstM m l = ff at HN0 HN1 H4096 ⊢
 obtain ⟨RR, hRR⟩ : ∃ RR : Value, RR = meetV ff := ⟨_, rfl⟩
 have HRR := hid hRR
 rw [← hRR]
 clear hl hnd hRR
 obtain ⟨F, hF⟩ : ∃ F : List (Int × Int) → Int, ∀ ps, F ps = minF (pairN m) ps := ⟨_, fun _ => rfl⟩
 have HF := hid hF
 clear hF
 have hF0 : F (pairsTo l 0) = -1 := by rw [HF.out]; rfl
 have HF0 := hid hF0
 clear hF0
 go_enter Tryz.func79, Tryz.ntmps79
 go_wp2_with fail
 go_loopw [6, 7, 8, 9] (fun bo i _ _ wr => ∃ k : Nat, k ≤ l.length ∧ bo = .int .i64 (F (pairsTo l k)) ∧ i = .int .i64 k ∧ SL w.heap.size w wr [pBlk w.heap.size (.cells (mC m ad cap) 25)]) (fun _ i _ _ _ => l.length - (intOf i).toNat)
 case atStart => exact ⟨0, by omega, by rw [HF0.out], rfl, hS⟩
 case round =>
  clear hS
  obtain ⟨k, hk, rfl, rfl, hSr⟩ := hrel
  by_cases hlt : k < l.length
  ·go_wp2_with fail
   go_loopw [6, 8, 9] (fun bo i _ wq => ∃ j : Nat, j ≤ k ∧ bo = .int .i64 (F (pairsAt l k j)) ∧ i = .int .i64 j ∧ SL w.heap.size w wq [pBlk w.heap.size (.cells (mC m ad cap) 25)]) (fun _ i _ _ => k - (intOf i).toNat)
   case atStart => exact ⟨0, by omega, by rw [pairsAt_zero], rfl, hSr⟩
   case round =>
    clear hSr
    obtain ⟨j, hj, rfl, rfl, hSq⟩ := hrel
    by_cases hjk : j < k
    ·have hst := HMA.out k j (by omega)
     rw [← HF.out, ← HF.out] at hst
     have CC := fun w h => HCA.out k j w h hlt hjk
     obtain ⟨Q, hQ⟩ : ∃ Q, Q = pairN m (atD 0 l k, atD 0 l j) := ⟨_, rfl⟩
     rw [← hQ] at hst CC
     obtain ⟨X, hX⟩ : ∃ X, X = atD 0 l k := ⟨_, rfl⟩
     obtain ⟨Y, hY⟩ : ∃ Y, Y = atD 0 l j := ⟨_, rfl⟩
     obtain ⟨B, hB⟩ : ∃ B, B = F (pairsAt l k j) := ⟨_, rfl⟩
     rw [← hB] at hst ⊢
     rw [← hX] at CC
     rw [← hY] at CC
     have HX := hid hX; have HY := hid hY; have HC := hid CC
     have hLq := hL.below hSq.b
     have hRq := hR.below hSq.b
     have q2 := (hSq.blk 0 rfl).1
     have hkl : (k : Int) < l.length := by omega
     have hjl : (j : Int) < l.length := by omega
     clear CC hX hY hB hQ
     by_cases hQ0 : 0 ≤ Q
     ·have hqd : decide (0 ≤ Q) = true := decide_eq_true hQ0
      by_cases hB0 : B < 0
      ·rw [if_pos ⟨hQ0, .inl hB0⟩] at hst
       have hbd : decide (B < 0) = true := decide_eq_true hB0
       have HST := hid hst
       clear hst hB0 hQ0
       go_wp2_with fail
       refine wp_region_q kR kR ?_
       repeat (first | ((with_reducible refine wpB_loadS (n := 4) (us := mC m ad cap) A_rmach kR wU wU (by assumption) wU wU ?_); (try simp only [Act.put, pA, pB, pC])) | (((with_reducible refine wpB_idxW 0 E_ints F_int cInt1 wU (rfl) wU (hLq) oD oD (fun _ => wU) wU (fun _ => wU) (fun _ => ?_)); (try simp only [Act.put, pA, pB, pC]); (try simp only [cInt])); first | rw [← HX.out] | rw [← HY.out]) | ((with_reducible refine wpB_call (.int .i64 Q) wU (fun w' => ?_) (fun w' hw' => HC.out w' (hRq.below hw')) ?_); (focus (go_simp; done)); (try simp only [Act.put, pA, pB, pC])) |  ((with_reducible refine wpB_load (by first | exact F_int | exact F_u64s) wU wU (by assumption) wU ?_); (try simp only [Act.put, pA, pB, pC])) | ((refine wpQ_oneG ?_ wU (fun w' => ?_) ?_); rotate_left; (go_simp; rfl); (try simp only [Act.put, pA, pB, pC])))
       refine wpQuiet_nil ?_
       intro w5 hb5
       have hS5 := hSq.mono hb5
       clear q2
       go_wp2_with fail
       exact ⟨⟨j + 1, by omega, by rw [HST.out], by go_num, hS5⟩, by simp [intOf]; omega⟩
      ·have hbd : decide (B < 0) = false := decide_eq_false hB0
       by_cases hPB : Q < B
       ·rw [if_pos ⟨hQ0, .inr hPB⟩] at hst
        have hpd : decide (Q < B) = true := decide_eq_true hPB
        have HST := hid hst
        clear hst hB0 hPB hQ0
        go_wp2_with fail
        refine wp_region_q kR kR ?_
        repeat (first | ((with_reducible refine wpB_loadS (n := 4) (us := mC m ad cap) A_rmach kR wU wU (by assumption) wU wU ?_); (try simp only [Act.put, pA, pB, pC])) | (((with_reducible refine wpB_idxW 0 E_ints F_int cInt1 wU (rfl) wU (hLq) oD oD (fun _ => wU) wU (fun _ => wU) (fun _ => ?_)); (try simp only [Act.put, pA, pB, pC]); (try simp only [cInt])); first | rw [← HX.out] | rw [← HY.out]) | ((with_reducible refine wpB_call (.int .i64 Q) wU (fun w' => ?_) (fun w' hw' => HC.out w' (hRq.below hw')) ?_); (focus (go_simp; done)); (try simp only [Act.put, pA, pB, pC])) |  ((with_reducible refine wpB_load (by first | exact F_int | exact F_u64s) wU wU (by assumption) wU ?_); (try simp only [Act.put, pA, pB, pC])) | ((refine wpQ_oneG ?_ wU (fun w' => ?_) ?_); rotate_left; (go_simp; rfl); (try simp only [Act.put, pA, pB, pC])))
        refine wpQuiet_nil ?_
        intro w5 hb5
        have hS5 := hSq.mono hb5
        clear q2
        go_wp2_with fail
        exact ⟨⟨j + 1, by omega, by rw [HST.out], by go_num, hS5⟩, by simp [intOf]; omega⟩
       ·rw [if_neg (fun h => by rcases h.2 with h | h; exact hB0 h; exact hPB h)] at hst
        have hpd : decide (Q < B) = false := decide_eq_false hPB
        have HST := hid hst
        clear hst hB0 hPB hQ0
        go_wp2_with fail
        refine wp_region_q kR kR ?_
        repeat (first | ((with_reducible refine wpB_loadS (n := 4) (us := mC m ad cap) A_rmach kR wU wU (by assumption) wU wU ?_); (try simp only [Act.put, pA, pB, pC])) | (((with_reducible refine wpB_idxW 0 E_ints F_int cInt1 wU (rfl) wU (hLq) oD oD (fun _ => wU) wU (fun _ => wU) (fun _ => ?_)); (try simp only [Act.put, pA, pB, pC]); (try simp only [cInt])); first | rw [← HX.out] | rw [← HY.out]) | ((with_reducible refine wpB_call (.int .i64 Q) wU (fun w' => ?_) (fun w' hw' => HC.out w' (hRq.below hw')) ?_); (focus (go_simp; done)); (try simp only [Act.put, pA, pB, pC])) |  ((with_reducible refine wpB_load (by first | exact F_int | exact F_u64s) wU wU (by assumption) wU ?_); (try simp only [Act.put, pA, pB, pC])) | ((refine wpQ_oneG ?_ wU (fun w' => ?_) ?_); rotate_left; (go_simp; rfl); (try simp only [Act.put, pA, pB, pC])))
        refine wpQuiet_nil ?_
        intro w5 hb5
        have hS5 := hSq.mono hb5
        clear q2
        go_wp2_with fail
        exact ⟨⟨j + 1, by omega, by rw [HST.out], by go_num, hS5⟩, by simp [intOf]; omega⟩
     ·have hqd : decide (0 ≤ Q) = false := decide_eq_false hQ0
      rw [if_neg (fun h => hQ0 h.1)] at hst
      have HST := hid hst
      clear hst hQ0
      go_wp2_with fail
      refine wp_region_q kR kR ?_
      repeat (first | ((with_reducible refine wpB_loadS (n := 4) (us := mC m ad cap) A_rmach kR wU wU (by assumption) wU wU ?_); (try simp only [Act.put, pA, pB, pC])) | (((with_reducible refine wpB_idxW 0 E_ints F_int cInt1 wU (rfl) wU (hLq) oD oD (fun _ => wU) wU (fun _ => wU) (fun _ => ?_)); (try simp only [Act.put, pA, pB, pC]); (try simp only [cInt])); first | rw [← HX.out] | rw [← HY.out]) | ((with_reducible refine wpB_call (.int .i64 Q) wU (fun w' => ?_) (fun w' hw' => HC.out w' (hRq.below hw')) ?_); (focus (go_simp; done)); (try simp only [Act.put, pA, pB, pC])) |  ((with_reducible refine wpB_load (by first | exact F_int | exact F_u64s) wU wU (by assumption) wU ?_); (try simp only [Act.put, pA, pB, pC])) | ((refine wpQ_oneG ?_ wU (fun w' => ?_) ?_); rotate_left; (go_simp; rfl); (try simp only [Act.put, pA, pB, pC])))
      refine wpQuiet_nil ?_
      intro w5 hb5
      have hS5 := hSq.mono hb5
      clear q2
      go_wp2_with fail
      exact ⟨⟨j + 1, by omega, by rw [HST.out], by go_num, hS5⟩, by simp [intOf]; omega⟩
    ·have hjk2 : j = k := by omega
     subst hjk2
     go_wp2_with fail
     exact ⟨⟨j + 1, by omega, by rw [pairsAt_last], by go_num, hSq⟩, by simp [intOf]; omega⟩
  ·have hkn : k = l.length := by omega
   subst hkn
   have hfe : F (pairsTo l l.length) = meetN m l := by rw [HF.out, HE.out]
   rw [hfe]
   clear hfe
   cases ff with
   | none =>
    rw [HN0.out rfl]
    have hr : RR = .tuple #[.int .i64 (-1), .int .i64 0] := HRR.out
    have HR2 := hid hr
    clear hr
    go_wp2_with fail
    go_ret2
    exact ⟨by rw [HR2.out]; rfl, hSr.b⟩
   | some v =>
    obtain ⟨n1, n2⟩ := HN1.out v rfl
    have n3 := H4096.out v rfl
    rw [n1]
    have CST := fun w h h2 => HST.out v.1 w h h2 n3
    have CNW := fun a c w h => HNW.out v.1 a c w h
    simp only [n2] at CNW
    obtain ⟨NL, hNL⟩ : ∃ NL, NL = l.map fun s => itM m s v.1 := ⟨_, rfl⟩
    rw [← hNL] at CST
    simp only [← hNL] at CNW
    have hr : RR = .tuple #[.int .i64 v.1, .int .i64 v.2] := HRR.out
    have HNL : Hid (NL.length = l.length) := hid (by rw [hNL]; simp)
    obtain ⟨N, Pl⟩ := v
    dsimp only at hr CST CNW n3
    have HR2 := hid hr; have HS2 := hid CST; have HW2 := hid CNW
    have hNd : decide ((N : Int) < 0) = false := by simp
    have q2 := (hSr.blk 0 rfl).1
    have hRr := hR.below hSr.b
    have hLr := hL.below hSr.b
    clear hr CST CNW n1 n2 hNL
    go_wp2_with fail
    refine wp_regionK (C := (fun V => Below w.heap.size w V ∧ V.heap[w.heap.size]? = some (.cells (mC m ad cap) 25))) [0, 1, 2, 3, 4] [_, _, _, _, _] 4 (by simp only [List.map_cons, List.map_nil, List.getElem?_toArray]; rfl) rfl kR kR kR (⟨hSr.b.drew, q2⟩) ?_
    refine ⟨_, yieldsK_val wU (fun w' => by with_unfolding_all exact rfl), ?_⟩
    go_frame
    refine ⟨_, yieldsK_blkC (n := 4) A_rmach kR (fun V h => h.2) rfl wU wU, ?_⟩
    go_frame
    refine ⟨_, yieldsK_blkC (n := 4) A_rmach kR (fun V h => h.2) rfl wU wU, ?_⟩
    go_frame
    refine ⟨_, yieldsK_val wU (fun w' => by with_unfolding_all exact rfl), ?_⟩
    go_frame
    refine ⟨_, yieldsK_val wU (fun w' => by with_unfolding_all exact rfl), ?_⟩
    go_frame
    unfold wpPureK
    have hVd : ({ wr with drawn := wr.drawn + 1 } : World) = wr.drew := rfl
    rw [hVd]
    have b2 : Below wr.heap.size wr wr.drew := (Below.refl _ _).drew
    refine wpAnyC_on [5] kR (by simp) ?_
    simp only [List.forall_mem_cons, List.not_mem_nil, false_implies, implies_true, and_true]
    refine wpOp_call (f := 80) (args := #[mV m ad cap, .slice al l.length cl, .int .i64 N]) (by rw [List.getElem?_toArray]; rfl) wU (by first | (go_simp; done) | (simp [execOp, Act.eval, Result.andThen]; done) | (simp [execOp, Act.eval, Result.andThen]; rfl)) ?_
    refine (HS2.out _ (hRr.below b2) (hLr.below b2)).mono ?_
    rintro e w3 ⟨v3, rfl, ho3, b3⟩
    obtain ⟨a3, c3, rfl, h3, _, _⟩ := ho3.reps
    have hS3 := hSr.drew.mono b3
    refine ⟨_, rfl, ⟨hS3.b, (hS3.blk 0 rfl).1⟩, ?_⟩
    go_frame
    refine wpAnyC_on [6] kR (by simp) ?_
    simp only [List.forall_mem_cons, List.not_mem_nil, false_implies, implies_true, and_true]
    refine wpOp_call (f := 19) (args := #[mV m ad cap, .slice a3 NL.length c3]) (by rw [List.getElem?_toArray]; rfl) wU (by first | (go_simp; done) | (simp [execOp, Act.eval, Result.andThen]; done) | (simp [execOp, Act.eval, Result.andThen]; rfl)) ?_
    refine (HW2.out a3 c3 _ h3).mono ?_
    rintro e w4 ⟨rfl, b4⟩
    have hS4 := hS3.mono b4
    refine ⟨_, rfl, ⟨hS4.b, (hS4.blk 0 rfl).1⟩, ?_⟩
    go_frame
    refine wpAnyC_rest [7, 8] [_, _] rfl (by simp only [List.map_cons, List.map_nil, List.getElem?_toArray]; rfl) kR kR kR (⟨hS4.b, (hS4.blk 0 rfl).1⟩) ?_
    repeat (refine ⟨_, .inl ⟨by with_unfolding_all rfl, fun w' _ => by with_unfolding_all exact rfl⟩, ?_⟩; go_frame)
    unfold wpPure
    refine of_wpList_nil (P := Tryz.prog) (ops := #[]) ?_
    go_wp2_with fail
    go_ret2
    exact ⟨by rw [HR2.out]; rfl, hS4.b⟩
end Go.Proofs.YtoebgfgihfjnnaaGreatDoor

namespace Go.Proofs.YtoebgfgihfjnnaaGreatDoor
open Go.RowKit Go.Shelf
attribute [local go_sem] Oper.semAt_some
set_option maxHeartbeats 8000000
set_option maxRecDepth 100000

section
variable {F : Fence} {nn : Nat} {P : Program} {ops : Array Oper} {Q : Exit → Act → World → Prop} {a : Act} {w : World} {rest : List Oper} {ty : TypeId} {p : String} {af : Array Edge} {g : Option (Nat × Bool)}
end
abbrev gC (m : MacV) (g : Int) : Array Value := #[.int .i64 (slotG m g 0), .int .i64 (slotG m g 1), .int .i64 (slotG m g 2), .int .i64 (slotG m g 3)]
def gearV (m : MacV) (g : Int) : Array Value := #[.int .i64 g, .agg (gC m g)]
def gearsTo (k : Nat) : List Int := (List.range k).map fun (g : Nat) => (g : Int)
theorem gearsTo_succ (k : Nat) : gearsTo (k + 1) = gearsTo k ++ [(k : Int)] := by simp [gearsTo, List.range_succ]
theorem gearsTo_len (k : Nat) : (gearsTo k).length = k := by simp [gearsTo]
/-- the slots of a gear while they are set. -/
def mixC (f : Bool) (g : Int) (j : Nat) : Array Value :=
 #[.int .i64 (if 0 < j then 4 * g else 0), .int .i64 ((if f then 1 else 3) + (if 1 < j then 4 * g else 0)), .int .i64 ((if f then 3 else 1) + (if 2 < j then 4 * g else 0)), .int .i64 (2 + (if 3 < j then 4 * g else 0))]
theorem mixC_end (m : MacV) (g : Int) : mixC (fwdM m g) g 4 = gC m g := by
 cases hf : fwdM m g <;> simp [mixC, gC, slotG, hf] <;> omega

theorem gears1_in (mm l bm : Nat) (m : MacV) (ad : Option Addr) (cap : Nat) (n : Nat) (hn : m.gears = n) (hn2 : n ≤ 16) (hm : 1 ≤ mm) (J Jx : List (Slot n) → World → Prop)
  (hY : ∀ pre (x : Slot n) W, J pre W → pre.length < n → YieldAt Fence.wide (mm - 1) Tryz.prog l (gearV m x.1) W fun e W' =>
   (e = .returned (.bool true) ∧ J (pre ++ [x]) W' ∧ KeepAt bm W W') ∨ (e = .returned (.bool false) ∧ Jx (pre ++ [x]) W'))
  (hJ : ∀ pre (W W' : World), J pre W → W.grownBy W' none → J pre W')
  (W : World) (hWm : W.heap[bm]? = some (.cells (mC m ad cap) 24)) (h0 : J [] W) :
  CallsIn Fence.wide mm Tryz.prog 148 #[.func (.yield l) #[] #[], .pointer (some ⟨bm, 0, none⟩)] W fun e W' => (∃ v, e = .returned v) ∧
   ((∃ ys : List (Slot n), ys.map (·.1) = gearsTo n ∧ J ys W') ∨ (∃ pre, Jx pre W')) := by
 have c1 : W.cell? ⟨bm, 1, none⟩ = some (.int .i64 m.gears) := by simp [World.cell?, hWm]
 have hge1 : (n : Int) ≤ m.gears := by omega
 have hge2 : m.gears ≤ (n : Int) := by omega
 clear hn
 refine callsIn_of_wp Tryz.func148 rfl trivial ?_ rfl
 simp only [Tryz.ntmps148, List.size_toArray, List.length_cons, List.length_nil, Nat.reduceAdd, Nat.reduceSub, Array.replicate_succ, Array.replicate_zero, List.push_toArray, List.append_toArray, List.nil_append, List.cons_append]
 gi_wp2
 gi_loopw [8] (fun x wr => ∃ (k : Nat) (pre : List (Slot n)), k ≤ n ∧ x = .int .i64 k ∧ pre.map (·.1) = gearsTo k ∧ J pre wr ∧ wr.heap[bm]? = some (.cells (mC m ad cap) 24)) (fun x _ => n - (intOf x).toNat)
 case atStart => exact ⟨0, [], by omega, rfl, rfl, h0, hWm⟩
 case round =>
  obtain ⟨k, pre, hk, rfl, hpre, hJs, hwm⟩ := hrel
  have hlen : pre.length = k := by have := congrArg List.length hpre; simpa [gearsTo_len] using this
  obtain ⟨V, rfl⟩ : ∃ V, V = wr := ⟨wr, rfl⟩
  by_cases hlt : k < n
  ·have HHP := hid hpre; have HLN := hid hlen
   clear hpre hlen
   have CF := fun w => forwards_any m ad cap (k : Int) w (by omega) (by omega)
   have hme := mixC_end m k
   cases hf : fwdM m k
   ·rw [hf] at CF hme
    have HF := hid CF; have HME := hid hme
    clear CF hf hme
    have hbl : bm < V.heap.size := (Array.getElem?_eq_some_iff.1 hwm).1
    have kk : ∀ j u, (mC m ad cap)[j]? = some u → (V.alloc (.cells #[.int .i64 0, .int .i64 3, .int .i64 1, .int .i64 2] 146)).cell? ⟨bm, j, none⟩ = some u := by
     intro j u hu
     have := Below.heap_alloc V (.cells #[.int .i64 0, .int .i64 3, .int .i64 1, .int .i64 2] 146) bm hbl
     simp [World.cell?, this, hwm, hu]
    have k0 := kk 0 _ rfl
    have k1 := kk 1 _ rfl
    have k2 := kk 2 _ rfl
    have k3 := kk 3 _ rfl
    have hS0 := (SL.nil V).box (.cells #[.int .i64 0, .int .i64 3, .int .i64 1, .int .i64 2] 146)
    gi_wp2
    refine ⟨trivial, (callsIn_wide.2 (HF.out _)).mono ?_⟩
    rintro e w2 ⟨rfl, b2⟩
    have hS2 := hS0.mono b2
    clear k0 k1 k2 k3 kk
    gi_wp2
    clear HF
    gi_loopw [16] (fun i wq => ∃ j : Nat, j ≤ 4 ∧ i = .int .i64 j ∧ SL V.heap.size V wq [pBlk V.heap.size (.cells (mixC false k j) 146)]) (fun i _ => 4 - (intOf i).toNat)
    case atStart => exact ⟨0, by omega, rfl, hS2⟩
    case round =>
     clear hS2 hS0 b2
     obtain ⟨j, hj, rfl, hSq⟩ := hrel
     have hj5 : j = 0 ∨ j = 1 ∨ j = 2 ∨ j = 3 ∨ j = 4 := by omega
     have f0 := hSq.frozen 0 rfl 0
     have f1 := hSq.frozen 0 rfl 1
     have f2 := hSq.frozen 0 rfl 2
     have f3 := hSq.frozen 0 rfl 3
     rcases hj5 with rfl | rfl | rfl | rfl | rfl
     ·have q := hSq.cell 0 rfl 0 (u := .int .i64 0) (by simp [mixC])
      have hw : IntKind.i64.wrap (0 + 4 * (k : Int)) = 0 + 4 * (k : Int) := IntWalk.i64_in _ (by omega)
      gi_wp2
      go_roundw
      case rel => exact ⟨1, by omega, rfl, hSq.set 0 rfl 0 _⟩
      case measure => simp [intOf]
     ·have q := hSq.cell 0 rfl 1 (u := .int .i64 3) (by simp [mixC])
      have hw : IntKind.i64.wrap (3 + 4 * (k : Int)) = 3 + 4 * (k : Int) := IntWalk.i64_in _ (by omega)
      gi_wp2
      go_roundw
      case rel => exact ⟨2, by omega, rfl, hSq.set 0 rfl 1 _⟩
      case measure => simp [intOf]
     ·have q := hSq.cell 0 rfl 2 (u := .int .i64 1) (by simp [mixC])
      have hw : IntKind.i64.wrap (1 + 4 * (k : Int)) = 1 + 4 * (k : Int) := IntWalk.i64_in _ (by omega)
      gi_wp2
      go_roundw
      case rel => exact ⟨3, by omega, rfl, hSq.set 0 rfl 2 _⟩
      case measure => simp [intOf]
     ·have q := hSq.cell 0 rfl 3 (u := .int .i64 2) (by simp [mixC])
      have hw : IntKind.i64.wrap (2 + 4 * (k : Int)) = 2 + 4 * (k : Int) := IntWalk.i64_in _ (by omega)
      gi_wp2
      go_roundw
      case rel => exact ⟨4, by omega, rfl, hSq.set 0 rfl 3 _⟩
      case measure => simp [intOf]
     ·rw [HME.out] at hSq
      have q0 := hSq.cell 0 rfl 0 rfl
      have q1 := hSq.cell 0 rfl 1 rfl
      have q2 := hSq.cell 0 rfl 2 rfl
      have q3 := hSq.cell 0 rfl 3 rfl
      have hwm2 := (hSq.b.block bm hbl).trans hwm
      obtain ⟨fn, tmps, assign, body, hy, hR⟩ := hY pre ⟨(k : Int), by omega, by omega⟩ wr (hJ _ _ _ hJs (grown_of_below hSq.b)) (by have := HLN.out; omega)
      unfold gearV at hy
      dsimp only at hy
      clear hY f0 f1 f2 f3
      gi_wp2
      refine hR.mono ?_
      rintro e W3 (⟨rfl, hJ3, hk3⟩ | ⟨rfl, hJx3⟩)
      ·gi_wp2
       go_roundw
       case rel => exact ⟨k + 1, _, by omega, by go_num, by rw [List.map_append, HHP.out, gearsTo_succ]; rfl, hJ3, Eq.trans hk3 hwm2⟩
       case measure => simp [intOf]; omega
      ·gi_wp2
       refine bodyPost_ret (results_none rfl _ _ _) rfl ?_
       exact ⟨⟨_, rfl⟩, .inr ⟨_, hJx3⟩⟩
   ·rw [hf] at CF hme
    have HF := hid CF; have HME := hid hme
    clear CF hf hme
    have hbl : bm < V.heap.size := (Array.getElem?_eq_some_iff.1 hwm).1
    have kk : ∀ j u, (mC m ad cap)[j]? = some u → (V.alloc (.cells #[.int .i64 0, .int .i64 3, .int .i64 1, .int .i64 2] 146)).cell? ⟨bm, j, none⟩ = some u := by
     intro j u hu
     have := Below.heap_alloc V (.cells #[.int .i64 0, .int .i64 3, .int .i64 1, .int .i64 2] 146) bm hbl
     simp [World.cell?, this, hwm, hu]
    have k0 := kk 0 _ rfl
    have k1 := kk 1 _ rfl
    have k2 := kk 2 _ rfl
    have k3 := kk 3 _ rfl
    have hS0 := (SL.nil V).box (.cells #[.int .i64 0, .int .i64 3, .int .i64 1, .int .i64 2] 146)
    gi_wp2
    refine ⟨trivial, (callsIn_wide.2 (HF.out _)).mono ?_⟩
    rintro e w2 ⟨rfl, b2⟩
    have hS2 := hS0.mono b2
    clear k0 k1 k2 k3 kk
    have z0 := hS2.cell 0 rfl 0 rfl
    have z1 := hS2.cell 0 rfl 1 rfl
    have z2 := hS2.cell 0 rfl 2 rfl
    have z3 := hS2.cell 0 rfl 3 rfl
    have f0 := hS2.frozen 0 rfl 0
    have f1 := hS2.frozen 0 rfl 1
    have f2 := hS2.frozen 0 rfl 2
    have f3 := hS2.frozen 0 rfl 3
    have hS3 := (((hS2.set 0 rfl 0 (.int .i64 0)).set 0 rfl 1 (.int .i64 1)).set 0 rfl 2 (.int .i64 3)).set 0 rfl 3 (.int .i64 2)
    clear hS2
    have hS2 := hS3
    clear hS3
    gi_wp2
    clear z0 z1 z2 z3 f0 f1 f2 f3
    gi_loopw [16] (fun i wq => ∃ j : Nat, j ≤ 4 ∧ i = .int .i64 j ∧ SL V.heap.size V wq [pBlk V.heap.size (.cells (mixC true k j) 146)]) (fun i _ => 4 - (intOf i).toNat)
    case atStart => exact ⟨0, by omega, rfl, hS2⟩
    case round =>
     clear hS2 hS0 b2
     obtain ⟨j, hj, rfl, hSq⟩ := hrel
     have hj5 : j = 0 ∨ j = 1 ∨ j = 2 ∨ j = 3 ∨ j = 4 := by omega
     have f0 := hSq.frozen 0 rfl 0
     have f1 := hSq.frozen 0 rfl 1
     have f2 := hSq.frozen 0 rfl 2
     have f3 := hSq.frozen 0 rfl 3
     rcases hj5 with rfl | rfl | rfl | rfl | rfl
     ·have q := hSq.cell 0 rfl 0 (u := .int .i64 0) (by simp [mixC])
      have hw : IntKind.i64.wrap (0 + 4 * (k : Int)) = 0 + 4 * (k : Int) := IntWalk.i64_in _ (by omega)
      gi_wp2
      go_roundw
      case rel => exact ⟨1, by omega, rfl, hSq.set 0 rfl 0 _⟩
      case measure => simp [intOf]
     ·have q := hSq.cell 0 rfl 1 (u := .int .i64 1) (by simp [mixC])
      have hw : IntKind.i64.wrap (1 + 4 * (k : Int)) = 1 + 4 * (k : Int) := IntWalk.i64_in _ (by omega)
      gi_wp2
      go_roundw
      case rel => exact ⟨2, by omega, rfl, hSq.set 0 rfl 1 _⟩
      case measure => simp [intOf]
     ·have q := hSq.cell 0 rfl 2 (u := .int .i64 3) (by simp [mixC])
      have hw : IntKind.i64.wrap (3 + 4 * (k : Int)) = 3 + 4 * (k : Int) := IntWalk.i64_in _ (by omega)
      gi_wp2
      go_roundw
      case rel => exact ⟨3, by omega, rfl, hSq.set 0 rfl 2 _⟩
      case measure => simp [intOf]
     ·have q := hSq.cell 0 rfl 3 (u := .int .i64 2) (by simp [mixC])
      have hw : IntKind.i64.wrap (2 + 4 * (k : Int)) = 2 + 4 * (k : Int) := IntWalk.i64_in _ (by omega)
      gi_wp2
      go_roundw
      case rel => exact ⟨4, by omega, rfl, hSq.set 0 rfl 3 _⟩
      case measure => simp [intOf]
     ·rw [HME.out] at hSq
      have q0 := hSq.cell 0 rfl 0 rfl
      have q1 := hSq.cell 0 rfl 1 rfl
      have q2 := hSq.cell 0 rfl 2 rfl
      have q3 := hSq.cell 0 rfl 3 rfl
      have hwm2 := (hSq.b.block bm hbl).trans hwm
      obtain ⟨fn, tmps, assign, body, hy, hR⟩ := hY pre ⟨(k : Int), by omega, by omega⟩ wr (hJ _ _ _ hJs (grown_of_below hSq.b)) (by have := HLN.out; omega)
      unfold gearV at hy
      dsimp only at hy
      clear hY f0 f1 f2 f3
      gi_wp2
      refine hR.mono ?_
      rintro e W3 (⟨rfl, hJ3, hk3⟩ | ⟨rfl, hJx3⟩)
      ·gi_wp2
       go_roundw
       case rel => exact ⟨k + 1, _, by omega, by go_num, by rw [List.map_append, HHP.out, gearsTo_succ]; rfl, hJ3, Eq.trans hk3 hwm2⟩
       case measure => simp [intOf]; omega
      ·gi_wp2
       refine bodyPost_ret (results_none rfl _ _ _) rfl ?_
       exact ⟨⟨_, rfl⟩, .inr ⟨_, hJx3⟩⟩
  ·have hkn : k = n := by omega
   subst hkn
   gi_wp2
   go_end0
   exact ⟨⟨_, rfl⟩, .inl ⟨pre, hpre, hJs⟩⟩
/-- gears' value hands out the gears from left to right. -/
theorem gears_stops (mm bm : Nat) (m : MacV) (ad : Option Addr) (cap : Nat) (n : Nat) (hn : m.gears = n) (hn2 : n ≤ 16) (hm : 1 ≤ mm) (w : World) (hbm : bm < w.heap.size) (hWm : w.heap[bm]? = some (.cells (mC m ad cap) 24)) :
  SeqStopsK Fence.wide mm Tryz.prog 148 #[.pointer (some ⟨bm, 0, none⟩)] (fun x : Slot n => gearV m x.1) (KeepAt bm) (fun ys => ys.map (·.1) = gearsTo n) (fun _ => True) n w := fun l J Jx W hW hJ _ hY h0 => by
 refine (gears1_in mm l bm m ad cap n hn hn2 hm J Jx hY (fun pre A B hA hg => hJ _ _ _ none hA hg (fun r e => by cases e)) W ((hW.block _ hbm).trans hWm) h0).mono ?_
 rintro e W' ⟨he, ⟨ys, hys, hj⟩ | ⟨pre, hj⟩⟩
 ·exact ⟨he, .inl ⟨ys, hys, hj⟩⟩
 ·exact ⟨he, .inr ⟨pre, trivial, hj⟩⟩
theorem gears_any (m : MacV) (ad : Option Addr) (cap : Nat) (w : World) :
  Calls Tryz.prog 112 #[mV m ad cap] w fun r w' =>
   r = .returned (.func (.func 148) #[] #[.pointer (some ⟨w.heap.size, 0, none⟩)]) ∧ w' = w.alloc (.cells (mC m ad cap) 24) := by
 go_enter Tryz.func112, Tryz.ntmps112
 go_wp2
 go_ret
 exact ⟨rfl, rfl⟩
end Go.Proofs.YtoebgfgihfjnnaaGreatDoor

namespace Go.Proofs.YtoebgfgihfjnnaaGreatDoor
open Go.RowKit
set_option maxRecDepth 100000

theorem run_index4 (w : World) (a b c d : Value) (k : Int) (h0 : 0 ≤ k) (h1 : k < 4) : (Instr.index 146 (.agg #[a, b, c, d]) (.int .i64 k)).run Tryz.prog w = .ok ([a, b, c, d].getD k.toNat undef) w := by
 have hi : (Tryz.prog.info? 3).map (fun i => (i.zero, i.size, i.bytes)) = some (some (.int .i64 0), 1, 8) := by kernel_rfl
 obtain ⟨i, hi, _, hs, _⟩ := info_parts hi
 have hF := F_int
 obtain ⟨dd, hu, hd⟩ := hF
 have hk : k.toNat = 0 ∨ k.toNat = 1 ∨ k.toNat = 2 ∨ k.toNat = 3 := by omega
 have hagg : (isAgg 3).run Tryz.prog w = .ok false w := by
  unfold isAgg
  rw [Sem.run_bind, run_underlying hu w]
  cases dd <;> simp_all
 rcases hk with hk | hk | hk | hk <;> simp [Instr.index, asIntOf, run_underlying Tryz.underlying146, h0, h1, sizeOf, typeInfo, hi, hs, hk, part, hagg, Sem.run_bind]
theorem run_index32 (w : World) (a b c d e f : Value) (k : Int) (h0 : 0 ≤ k) (h1 : k < 3) : (Instr.index 147 (.agg #[a, b, c, d, e, f]) (.int .i64 k)).run Tryz.prog w = .ok ([.agg #[a, b], .agg #[c, d], .agg #[e, f]].getD k.toNat undef) w := by
 have hi2 : (Tryz.prog.info? 84).map (·.size) = some 2 := by kernel_rfl
 obtain ⟨i, hi, hs⟩ : ∃ i, Tryz.prog.info? 84 = some i ∧ i.size = 2 := by
  cases hi : Tryz.prog.info? 84 with
  | none => rw [hi] at hi2; cases hi2
  | some i => rw [hi] at hi2; exact ⟨i, rfl, by simpa using hi2⟩
 obtain ⟨dd, hu, hd⟩ := A_two
 have hk : k.toNat = 0 ∨ k.toNat = 1 ∨ k.toNat = 2 := by omega
 have hagg : (isAgg 84).run Tryz.prog w = .ok true w := by
  unfold isAgg
  rw [Sem.run_bind, run_underlying hu w]
  cases dd <;> simp_all
 rcases hk with hk | hk | hk <;> simp [Instr.index, asIntOf, run_underlying Tryz.underlying147, h0, h1, sizeOf, typeInfo, hi, hs, hk, part, hagg, Sem.run_bind]

section
variable {F : Fence} {n : Nat} {P : Program} {ops : Array Oper} {md : Region.Mode} {C : World → Prop}
theorem Oper.wpIn_of_quietR {o : Oper} {a : Act} {K : Act → Prop} {K' : Act → World → Prop} {Q' : Exit → Act → World → Prop} {w : World} (hnd : ∀ c, o.op ≠ .defer c) (hw : C w) (h : ∀ a w', C w' → K a → K' a w')
  (ha : o.askedIn F P a C) (hh : o.quietIn F n P a C K) : o.wpIn F n P a w K' Q' := by
 obtain ⟨v, h1, h2⟩ := hh
 have h3 := h1 w hw
 unfold Oper.quietAtIn at h3
 unfold Oper.wpIn
 refine ⟨ha w hw, ?_⟩
 rw [Oper.semAt_plain F _ _ hnd]
 generalize (execOp a.eval o).run P w = r at *
 cases r with
 | ok x w' =>
  cases x <;> simp only [Oper.quietUponIn] at h3 <;> simp only [Oper.uponIn]
  case value u =>
   obtain ⟨e1, e2⟩ := h3
   rw [e1, e2]
   exact h _ _ hw h2
  case skip =>
   obtain ⟨e1, e2⟩ := h3
   rw [e1, ← e2]
   exact h _ _ hw h2
  case enter f args =>
   obtain ⟨e1, hd, hc⟩ := h3
   rw [e1]
   exact ⟨hd, hc.mono fun e w'' ⟨he, hw''⟩ => by subst he; exact h _ _ hw'' h2⟩
 | halt x w' => simp only [Oper.quietUponIn] at h3
theorem wpOpIn_of_qOpInR {i : Nat} {a : Act} {K : Act → Prop} {K' : Act → World → Prop} {Q' : Exit → Act → World → Prop} {w : World} (hnd : ∀ o, ops[i]? = some o → ∀ c, o.op ≠ .defer c) (hC : C w) (h : ∀ a w', C w' → K a → K' a w')
  (hh : qOpIn F n P ops C i K a) : wpOpIn F n P ops Q' i K' a w := by
 unfold qOpIn at hh
 unfold wpOpIn
 split
 ·rename_i ho; simp only [ho] at hh; exact h _ _ hC hh
 ·rename_i o ho
  simp only [ho] at hh
  obtain ⟨ha, hh⟩ := hh
  split
  ·rename_i hw; simp only [hw, if_true] at hh; exact Oper.wpIn_of_quietR (hnd o ho) hC h ha hh
  ·rename_i hw; simp only [hw] at hh; exact ⟨ha w hC, h _ _ hC hh⟩
theorem wpAnyIn_of_quietR {Q : Act → Prop} {Q' : Exit → Act → World → Prop} (hnd : ∀ (i : Nat) o, ops[i]? = some o → ∀ c, o.op ≠ .defer c) (hQ : ∀ a w, C w → Q a → Q' .normal a w) : ∀ (fuel : Nat) (listed : Array Bool) (a : Act) (w : World), C w →
  wpAnyQIn F n P md ops C Q fuel listed a → wpAnyIn F n P md ops Q' fuel listed a w
 | 0, _, _, _, hw, h => ⟨h.1, hQ _ _ hw h.2⟩
 | fuel + 1, _, _, _, hw, h => ⟨fun h0 => hQ _ _ hw (h.1 h0), fun i hi => wpOpIn_of_qOpInR (hnd i) hw (fun a' w' hw' => wpAnyIn_of_quietR hnd hQ fuel _ a' w' hw') (h.2 i hi)⟩
theorem wpIn_region_quietR {id : Nat} {Q : Exit → Act → World → Prop} {a : Act} {w : World} {l : List Oper} (hnd : l.all (fun o => match o.op with | .defer _ => false | _ => true) = true) (hm : P.follows .mixedOrders = true) (hB : Region.lexB .any l.toArray = true)
  (h : wpQuietIn F n P l.toArray (fun w' => ∃ n, w' = w.drewN n) (fun a' => ∀ w', (∃ n, w' = w.drewN n) → Q .normal a' w') l a) : (Code.region id l.toArray true).wpIn F n P Q a w := by
 simp only [Region.lexB, Bool.and_eq_true] at hB
 have hnd' : ∀ (i : Nat) o, l.toArray[i]? = some o → ∀ c, o.op ≠ .defer c := by
  intro i o ho c hc
  have hm : o ∈ l := List.mem_of_getElem? (by simpa using ho)
  have := List.all_eq_true.1 hnd o hm
  rw [hc] at this
  cases this
 refine wpIn_region_any hm (wpAnyIn_of_quietR (C := fun w' => ∃ n, w' = w.drewN n) (Q := fun a' => ∀ w', (∃ n, w' = w.drewN n) → Q .normal a' w') hnd' (fun _ w' hw' h => h w' hw') _ _ _ _ ⟨1, rfl⟩ ?_)
 have := wpAnyQIn_lex (F := F) (n := n) (C := fun w' => ∃ n, w' = w.drewN n) (md := .any) hB.1 l 0 (Array.replicate l.toArray.size false) a (by simp) (by simpa using hB.2) (by simpa using h)
 simpa using this
theorem wpQIn_val {Q : Act → Prop} {a : Act} {o : Oper} {rest : List Oper} (v : Value) (hg : o.guard = none) (ha : ∀ w, o.about P w a.eval = none) (hr : ∀ w', (execOp a.eval o).run P w' = .ok (.value v) w')
  (h : wpQuietIn F n P ops C Q rest (a.put o.dst v)) : wpQuietIn F n P ops C Q (o :: rest) a := by
 refine ⟨fun w _ f hf => (by rw [ha w] at hf; cases hf), ?_⟩
 rw [if_pos (by simp [Region.wanted, hg])]
 refine ⟨v, fun w' _ => ?_, h⟩
 unfold Oper.quietAtIn
 rw [hr w']
 exact ⟨rfl, rfl⟩
theorem wpQIn_load {Q : Act → Prop} {a : Act} {rest : List Oper} {w : World} {d : Tmp} {e : TypeId} {s : Operand} {ty : TypeId} {p : String} {af : Array Edge} {pa : Addr} {v : Value} (hF : Flat P e) (hs : a.eval s = .pointer (some pa)) (hc : w.cell? pa = some v)
  (h : wpQuietIn F n P ops (fun w' => ∃ n, w' = w.drewN n) Q rest (a.put (some d) v)) : wpQuietIn F n P ops (fun w' => ∃ n, w' = w.drewN n) Q (⟨some d, .load e s, ty, p, af, none⟩ :: rest) a := by
 refine ⟨fun w _ f hf => (by simp [Oper.about] at hf), ?_⟩
 rw [if_pos (by simp [Region.wanted])]
 refine ⟨v, fun w' hw' => ?_, h⟩
 obtain ⟨k, rfl⟩ := hw'
 unfold Oper.quietAtIn
 have := run_loadAt_cell (P := P) (w.drewN k) (a := pa) (v := v) hF hc
 simp [execOp, hs, this, Result.andThen]
 exact ⟨rfl, rfl⟩
end
end Go.Proofs.YtoebgfgihfjnnaaGreatDoor
