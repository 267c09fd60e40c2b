/- Contracts and plain facts that the claim uses (PwG PwC HtA HvA PwH). Conditions: as each one states. -/
import Derived.RangeFuncNested
import Derived.RangeFuncBound
import Derived.RangeFuncCalls
import Derived.RangeFuncLeaves
import Derived.RangeFuncFrom
import Derived.Shelf.Abstract
import Derived.Shelf.RegionOpen
import Derived.WalkKit
import Derived.OwnWalkIn
import Derived.TacticsInMore
import Derived.LoopNIn
import Derived.LoopIn
import Derived.Test.YtglpfpdomnllkaaGreatProg
import Derived.WalkSpells
import Derived.Maps.AppendAt
import Derived.Deep.Quiet
import Derived.Maps.Own
import Derived.Maps.OwnSet
import Derived.Maps.Views
import Derived.WalkLawsBesides
import Derived.Laws.EntriesVeiled
import Derived.Deep.QuietTactic
import Derived.BigQuiet
import Derived.StillTail
import Derived.Laws.Tables
import Derived.Deep.RegionHeld3
import Derived.Shelf.Strings.Trim
import Derived.Shelf.Strings.SlTrimAscii
import Derived.Shelf.Strings.Repeat
import Derived.Shelf.Strings.OnBuilder
import Derived.Shelf.Strconv.Itoa1
import Derived.Shelf.Strconv.Itoa3
import Derived.Shelf.LaysM
import Derived.Ground.Names2Prog
import Derived.Lib.OthersKept
import Derived.Deep.AppendLies
import Derived.Deep.RegionHeldLaw
import Derived.Deep.RegionLaw
import Derived.IntWalk
import Derived.Laws.CopyOwn
import Derived.BigRegion
import Derived.ChangeAlike
import Derived.Shelf.Bits.Mul64
import Derived.Lib.ItoaLen
import Derived.Lib.ItoaMem
import Derived.Sort.LoopGhostIn
import Derived.Maps.RangeWalk
import Derived.Sort.QuietThIn
import Derived.Maps.Ext
import Derived.Deep.LoopGhost
import Derived.Lib.Split
import Derived.Lib.AtoiAll
import Derived.Lib.AppendIntMem
import Derived.Lib.SmallJoins
import Derived.LaidSub
import Derived.Lib.LaidTab
import Derived.Lib.AtoiErrMem
import Derived.Stop.LaidErr
import Derived.ReadAgain
import Derived.ChangeSlices
import Derived.OpenShut
import Derived.ProofKit
import Derived.Deep.DeepHandedRow
import Derived.Deep.SlicePairs
import Derived.Laws.IdiomStrings
import Derived.Test.YtglpfpdomnllkaaGreatXt01
import Derived.Test.YtglpfpdomnllkaaGreatXt02
import Derived.Test.YtglpfpdomnllkaaGreatXt03
import Derived.Test.YtglpfpdomnllkaaGreatXt04
import Derived.Test.YtglpfpdomnllkaaGreatXt05
import Derived.Test.YtglpfpdomnllkaaGreatXt06
import Derived.Test.YtglpfpdomnllkaaGreatXt07
import Derived.Test.YtglpfpdomnllkaaGreatY7901
import Derived.Test.YtglpfpdomnllkaaGreatY7902
import Derived.Test.YtglpfpdomnllkaaGreatY7903
import Derived.Test.YtglpfpdomnllkaaGreatY7904
import Derived.Test.YtglpfpdomnllkaaGreatY7905
import Derived.Test.YtglpfpdomnllkaaGreatY7906
import Derived.Test.YtglpfpdomnllkaaGreatY7907
import Derived.Test.YtglpfpdomnllkaaGreatY7908
set_option linter.all false

namespace Go.Proofs.YtglpfpdomnllkaaGreat
open Go.RowKit
set_option maxHeartbeats 8000000
set_option maxRecDepth 100000
theorem pmean_any (a a2 : Option Addr) (c c2 b : Nat) (S F : List Int) (A Sm : Nat → Nat) (O : Nat → List Int) (w : World) (hp : IsP F) (hn : F.length ≤ 12) (hA0 : A 0 = 1) (hA : ∀ k, k < F.length → A (k + 1) = lcmF (A k) (ordN F k)) (hAb : ∀ k, k ≤ F.length → 0 < A k ∧ A k ≤ 1000)
  (hL : ∀ r, r < A F.length → ∀ (a2 : Option Addr) (c2 : Nat) w, Ints w a2 c2 (powP F r) → Calls Tryz.prog 153 #[.agg #[.slice none 0 0, .slice a2 F.length c2]] w fun r' w' => ∃ v, r' = .returned v ∧ OwnI w.heap.size w' v (O r) ∧ Below w.heap.size w w')
  (hO : ∀ r, r < A F.length → (O r).length ≤ 12) (hS0 : Sm 0 = 0) (hS : ∀ r, r < A F.length → Sm (r + 1) = Sm r + 2 ^ (O r).length) (hSb : ∀ r, r ≤ A F.length → Sm r ≤ 10000000)
  (RF : Ints w a2 c2 F) (hb : w.cell? ⟨b, 0, none⟩ = some (.int .i64 2)) :
  Calls Tryz.prog 105 #[.agg #[.slice a S.length c, .slice a2 F.length c2], .func (.func 106) #[] #[.pointer (some ⟨b, 0, none⟩)]] w fun r w' => r = .returned (.int .i64 ((Sm (A F.length) / A F.length : Nat) : Int)) ∧ Below w.heap.size w w' := by
 have cm := RF.le
 have hbl := World.block_lt_of_cell? w _ hb
 have HCY := hid (fun (k : Nat) (hk : k < F.length) w RF => pcycle_any a a2 c c2 S.length F k w hp (by omega) (by omega) (by omega) RF)
 have HCO := hid (fun (k : Nat) (hk : k < F.length) (w : World) => by
  have ho := ordN_ok hp (i := (k : Int)) (by omega) (by omega)
  have h3 := pcommon_any (A k) (ordN F k) w (hAb k (by omega)).1 (by have := (hAb k (by omega)).2; omega) ho.pos (by have := ho.le; omega)
  rw [← hA k hk] at h3
  exact h3)
 have CMV : ∀ (C : List Int) (a3 : Option Addr) (c3 : Nat), C.length = F.length → ∀ w, Ints w a2 c2 F → Ints w a3 c3 C → Calls Tryz.prog 154 #[.agg #[.slice a S.length c, .slice a2 F.length c2], .slice a3 F.length c3] w fun r w' => ∃ v, r = .returned v ∧ OwnI w.heap.size w' v (F.map (atD 0 C)) ∧ Below w.heap.size w w' := fun C a3 c3 hl w RF RC => by
  have h3 := pmoved_any a a2 a3 c c2 c3 S.length F C w (fun x hx => by have := isP_mem hp x hx; omega) hl (by omega) RF RC
  rw [hl] at h3
  exact h3
 have HMV := hid CMV
 clear CMV
 have HPL : Hid (∀ r, (powP F r).length = F.length) := hid fun r => powP_len F r
 have HP0 : Hid (powP F 0 = idL F.length) := hid (powP_zero F.length F rfl)
 have HPS : Hid (∀ r, powP F (r + 1) = F.map (atD 0 (powP F r))) := hid fun r => powP_succ' hp r
 have HL := hid hL; have HO := hid hO; have HS := hid hS; have HSB := hid hSb; have HA0 := hid hA0; have HS0 := hid hS0; have HAB := hid hAb
 have hC0 := (SL.nil w).box (.cells #[.slice a S.length c, .slice a2 F.length c2] 100)
 obtain ⟨N, hN⟩ : ∃ N, N = A F.length := ⟨_, rfl⟩
 have hNb := hAb F.length (Nat.le_refl _)
 rw [← hN] at hNb HL HO HS HSB ⊢
 obtain ⟨R, hR⟩ : ∃ R, R = Sm N / N := ⟨_, rfl⟩
 rw [← hR]
 have HN := hid hN; have HR := hid hR
 clear hp hA hAb hL hO hS hSb hA0 hS0 hN hR
 go_enter Tryz.func105, Tryz.ntmps105
 go_wp2_with (with_reducible refine wpList_ldB F_sl wU wU (hC0.blk 0 rfl).1 wU ?_)
 go_loopw [13, 5] (fun iv ov wr => ∃ k : Nat, k ≤ F.length ∧ iv = .int .i64 k ∧ ov = .int .i64 (A k : Nat) ∧ SL w.heap.size w wr [pBlk w.heap.size (.cells #[.slice a S.length c, .slice a2 F.length c2] 100)]) (fun iv _ _ => F.length - (intOf iv).toNat)
 case atStart => exact ⟨0, by omega, rfl, by rw [HA0.out]; rfl, hC0⟩
 case round =>
  clear hC0
  obtain ⟨k, hk, rfl, rfl, hCr⟩ := hrel
  have q := (hCr.blk 0 rfl).1
  have hFr := RF.below hCr.b
  by_cases hlt : k < F.length
  ·have CY := HCY.out k hlt
   have CO := HCO.out k hlt
   obtain ⟨od, hod⟩ : ∃ od, od = ordN F k := ⟨_, rfl⟩
   rw [← hod] at CY CO
   have HY := hid CY; have HC := hid CO
   clear hod CY CO
   go_wp2_with (with_reducible refine wpList_ldS (n := 2) (us := #[.slice a S.length c, .slice a2 F.length c2]) A_sch kR wU wU (by assumption) wU wU ?_)
   refine (HY.out _ hFr).mono ?_
   rintro e w3 ⟨rfl, b3⟩
   have hC3 := hCr.mono b3
   go_wp2_with fail
   refine (HC.out _).mono ?_
   rintro e w4 ⟨rfl, b4⟩
   have hC4 := hC3.mono b4
   go_wp2_with fail
   exact ⟨⟨k + 1, by omega, by go_num, rfl, hC4⟩, by simp [intOf]; omega⟩
  ·have hkk : k = F.length := by omega
   have hAN : A k = N := by rw [hkk, HN.out]
   rw [hAN]
   have hkn : ¬ ((k : Int) < (F.length : Int)) := by omega
   clear hkk hAN hlt hk
   go_wp2_with (first | ((with_reducible refine wpList_makeL (c := cInt) (F.length) (0) E_ints cInt1 wU wU (by omega) (by omega) (hCr) ?_); intro ad1 w1 hS1) | (with_reducible refine wpList_ldB F_sl wU wU (by assumption) wU ?_))
   have hS2 := hS1.box (.cells #[.slice none 0 0, .slice ad1 F.length F.length] 100)
   have e0 : List.replicate F.length (0 : Int) = fillZ (powP F 0) 0 := by rw [fillZ_zero, HPL.out]
   rw [e0] at hS2
   obtain ⟨Pb, hPb⟩ : ∃ Pb, Pb = w1.heap.size := ⟨_, rfl⟩
   rw [← hPb] at hS2 ⊢
   clear e0 hS1 hCr q hFr hPb
   go_loopw [30] (fun iv wr => ∃ k : Nat, k ≤ F.length ∧ iv = .int .i64 k ∧ SL w.heap.size w wr [pBlk Pb (.cells #[.slice none 0 0, .slice ad1 F.length F.length] 100), pOwn cInt 1 3 (.slice ad1 F.length F.length) (fillZ (powP F 0) k), pBlk w.heap.size (.cells #[.slice a S.length c, .slice a2 F.length c2] 100)]) (fun iv _ => F.length - (intOf iv).toNat)
   case atStart => exact ⟨0, by omega, rfl, hS2⟩
   case round =>
    clear hS2
    obtain ⟨k, hk, rfl, hSr⟩ := hrel
    by_cases hlt : k < F.length
    ·have q := (hSr.blk 0 rfl).1
     have hfl : (fillZ (powP F 0) k).length = F.length := by rw [fillZ_len (by rw [HPL.out]; omega), HPL.out]
     have hset : (fillZ (powP F 0) k).set k (k : Int) = fillZ (powP F 0) (k + 1) := by
      have h := fillZ_set (L := powP F 0) (k := k) (by rw [HPL.out]; exact hlt)
      rw [HP0.out, idL_at (by omega) (by omega)] at h
      rw [HP0.out]
      exact h
     obtain ⟨X, hX⟩ : ∃ X, X = fillZ (powP F 0) k := ⟨_, rfl⟩
     rw [← hX] at hSr hfl hset
     have HSET := hid hset
     have hkX : (k : Int) < (X.length : Int) := by omega
     clear hX hfl hset
     go_wp2_with (first | (with_reducible refine wpList_ldB F_sl wU wU (by assumption) wU ?_) | ((with_reducible refine wpList_storeL (u := (k : Int)) 1 E_ints cInt1 (sto_int) wU wU (hSr) wU (by first | omega | (simp; done) | (simp; omega)) (by first | omega | (simp; done) | (simp; omega)) (fun _ => wU) (fun _ => wU) ?_); intro _ w3 hS3))
     have hS4 := hS3
     simp only [List.set_cons_zero, List.set_cons_succ, Int.toNat_natCast] at hS4
     rw [HSET.out] at hS4
     exact ⟨⟨k + 1, by omega, by go_num, hS4⟩, by simp [intOf]; omega⟩
    ·have hkk : k = F.length := by omega
     have e1 : fillZ (powP F 0) k = powP F 0 := by rw [hkk, ← HPL.out 0, fillZ_full]
     rw [e1] at hSr
     have hkn2 : ¬ ((k : Int) < (F.length : Int)) := by omega
     clear e1 hkk hlt hk
     go_wp2_with fail
     go_loopw [40, 7] (fun iv ov wt => ∃ (r : Nat) (fv : Value), r ≤ N ∧ iv = .int .i64 r ∧ ov = .int .i64 (Sm r : Nat) ∧ SL w.heap.size w wt [pBlk Pb (.cells #[.slice none 0 0, fv] 100), pOwn cInt 1 3 fv (powP F r), pBlk w.heap.size (.cells #[.slice a S.length c, .slice a2 F.length c2] 100)]) (fun iv _ _ => N - (intOf iv).toNat)
     case atStart => exact ⟨0, _, by omega, rfl, by rw [HS0.out]; rfl, hSr⟩
     case round =>
      clear hSr
      obtain ⟨r, fv, hr, rfl, rfl, hSt⟩ := hrel
      obtain ⟨fa, fc, rfl, -⟩ := hSt.slice 1 rfl
      by_cases hrn : r < N
      ·have hpl := HPL.out r
       have hR := hSt.rd 1 rfl
       have CL := HL.out r hrn
       have hol := HO.out r hrn
       have hsm := HS.out r hrn
       have hsb := HSB.out (r + 1) (by omega)
       have hsb0 := HSB.out r (by omega)
       have hnx := HPS.out r
       obtain ⟨X, hX⟩ : ∃ X, X = powP F r := ⟨_, rfl⟩
       obtain ⟨Or, hOr⟩ : ∃ Or, Or = O r := ⟨_, rfl⟩
       obtain ⟨s0, hs0⟩ : ∃ s0, s0 = Sm r := ⟨_, rfl⟩
       obtain ⟨s1, hs1⟩ : ∃ s1, s1 = Sm (r + 1) := ⟨_, rfl⟩
       obtain ⟨pw, hpw⟩ : ∃ pw, pw = 2 ^ Or.length := ⟨_, rfl⟩
       rw [← hX] at hSt hR CL hpl hnx
       rw [← hOr] at CL hol hsm
       rw [← hs0] at hsm hsb0 ⊢
       rw [← hs1] at hsm hsb
       rw [← hpw] at hsm
       have hw1 : IntKind.i64.wrap ((s0 : Int) + (pw : Int)) = (s1 : Int) := by rw [IntWalk.i64_in _ (by omega)]; omega
       have HCL := hid CL; have HXL := hid hpl; have HNX := hid hnx; have HS1 := hid hs1; have HPW := hid hpw
       have CC1 := fun (n cap : Nat) (a : Option Addr) (w : World) (hn : n ≤ 12) (hcap : n ≤ cap) hb => classes1_any b n cap a w hn hcap hb
       have HC1 := hid CC1
       clear CL hpl hnx hX hOr hs0 hs1 hsm hsb hsb0 CC1 hpw
       rw [HXL.out] at hSt
       have q := (hSt.blk 0 rfl).1
       go_wp2_with (with_reducible refine wpList_ldS (n := 2) (us := #[.slice none 0 0, .slice fa F.length fc]) A_sch kR wU wU (by assumption) wU wU ?_)
       refine (HCL.out fa fc _ hR).mono ?_
       rintro e w5 ⟨v5, rfl, ho5, b5⟩
       obtain ⟨al, cl, rfl, rl, _, _⟩ := ho5.reps
       have cml := rl.le
       have hS5 := hSt.mono b5
       have cb : w5.cell? ⟨b, 0, none⟩ = some (.int .i64 2) := (hS5.b.cell (p := ⟨b, 0, none⟩) hbl).trans hb
       clear ho5 b5 hSt q hR rl
       go_wp2_with fail
       refine (HC1.out _ _ _ _ hol cml cb).mono ?_
       rintro e w6 ⟨rfl, rfl⟩
       rw [← HPW.out]
       have q := (hS5.blk 0 rfl).1
       have qs := (hS5.blk 2 rfl).1
       go_wp2_with (first | (with_reducible refine wpList_ldS (n := 2) (us := #[.slice a S.length c, .slice a2 F.length c2]) A_sch kR wU wU (by assumption) wU wU ?_) | (with_reducible refine wpList_ldB F_sl wU wU (by assumption) wU ?_))
       refine (HMV.out X fa fc HXL.out _ (RF.below hS5.b) (hS5.rd 1 rfl)).mono ?_
       rintro e w7 ⟨v7, rfl, ho7, b7⟩
       have hS7 := hS5.call (SL.ofOwn ho7 b7)
       simp only [List.cons_append, List.nil_append] at hS7
       rw [← HNX.out] at hS7
       obtain ⟨ga, gc, rfl, -⟩ := hS7.slice 0 rfl
       clear ho7 b7 hS5 q qs cb
       go_wp2_with (refine wpList_stoAt (sto_slV (.slice ga (powP F (r + 1)).length gc) ⟨_, _, _, rfl⟩ _ _) wU wU (hS7.cell 1 rfl 1 rfl) (hS7.frozen 1 rfl 1) ?_)
       have hS8 := (hS7.set 1 rfl 1 (.slice ga (powP F (r + 1)).length gc)).pick [1, 0, 3] (by decide) [_, _, _] rfl
       exact ⟨⟨r + 1, _, by omega, by go_num, by rw [← HS1.out], hS8⟩, by simp [intOf]; omega⟩
      ·have hrr : r = N := by omega
       have hb2 := hSt.b
       obtain ⟨s0, hs0⟩ : ∃ s0, s0 = Sm N := ⟨_, rfl⟩
       have hsb := HSB.out N (by omega)
       have hRR := HR.out
       rw [hrr]
       rw [← hs0] at hsb hRR ⊢
       have hN1 : 0 < N := hNb.1
       have hNn : ¬ (N : Int) = 0 := by omega
       have hqd : (s0 : Int) / (N : Int) = (R : Int) := by rw [hRR]; simp
       have hq2 : R ≤ s0 := by rw [hRR]; exact Nat.div_le_self _ _
       have hend : wrap64 ((s0 : Int) / (N : Int)) = (R : Int) := by rw [hqd]; exact IntWalk.wrap64_in _ (by omega)
       have HEND := hid hend
       have hnn : ¬ ((N : Int) < (N : Int)) := by omega
       clear hrr hrn hr hSt hs0 hsb hRR hqd hq2 hend
       go_wp2_with fail
       go_ret
       exact ⟨by first | (rw [← HEND.out]; rfl) | (show Ending.returned (.int .i64 (wrap64 ((s0 : Int) / (N : Int)))) = _; rw [HEND.out]), hb2⟩
end Go.Proofs.YtglpfpdomnllkaaGreat

namespace Go.Proofs.YtglpfpdomnllkaaGreat
open Go.RowKit
set_option maxHeartbeats 8000000
set_option maxRecDepth 100000
/-- what open returns is a scheme whose places are in range. -/
theorem sch_ok {n : Nat} {l : List Int} (h : SchOk (n : Int) l) : IsP (row5 (idL n) l) ∧ (row5 (idL n) l).length = n ∧ (∀ x ∈ seenL n l, 0 ≤ x ∧ x < (row5 (idL n) l).length) ∧ (seenL n l).length = l.length := by
 have hr : LetRng n l := by have := h.rng; simpa using this
 have hv := row5_VP hr
 refine ⟨hv.1, hv.2, fun x hx => ?_, by unfold seenL; rw [seenGo_len]⟩
 rw [hv.2]
 exact seen_rng l (idL n) (idL_VP n) hr x hx
theorem Seen_any (n rows : Nat) (ad : Option Addr) (cap : Nat) (l : List Int) (w : World) (hL : Ints w ad cap l) (h : SchOk (n : Int) l) (hr1 : 1 ≤ rows) (hr2 : rows ≤ 24) :
  Calls Tryz.prog 47 #[.int .i64 n, .slice ad l.length cap, .int .i64 rows] w fun r w' => ∃ (v : Value) (qs : List (SlH × List Int)), r = .returned (.tuple #[v, .int .i64 0]) ∧ qs.map Prod.snd = (List.range rows).map (rowAt (seenL n l) (row5 (idL n) l)) ∧ SL w.heap.size w w' (pOwn cSl 1 22 v (qs.map Prod.fst) :: qs.map inP) := by
 obtain ⟨hp, hfl, hs, hsl⟩ := sch_ok h
 have hn12 := h.hi
 have hn2 := h.lo
 have hl24 := h.le
 have HC := hid (fun w hS => pCheckScheme n ad cap l w hS h)
 have HO := hid (fun w hS => open_any n ad cap l w hS (by omega) (by omega) (by omega) (by have := h.rng; simpa using this))
 have HT := hid (fun a a2 c c2 w RS RF => psStrands_any rows a a2 c c2 (seenL n l) (row5 (idL n) l) w hp hs (by omega) (by omega) (by omega) RS RF)
 obtain ⟨S, hS⟩ : ∃ S, S = seenL n l := ⟨_, rfl⟩
 obtain ⟨F, hF⟩ : ∃ F, F = row5 (idL n) l := ⟨_, rfl⟩
 rw [← hS, ← hF] at HO HT ⊢
 clear hS hF h hp hs hfl hsl
 go_enter Tryz.func47, Tryz.ntmps47
 go_wp2_with fail
 refine (HC.out _ hL).mono ?_
 rintro e w1 ⟨rfl, b1⟩
 go_wp2_with ((go_at_call 62; refine (prows_ok _ _ (by omega) (by omega)).mono ?_; rintro e w' ⟨rfl, rfl⟩))
 go_wp2_with ((go_at_call 60; refine (pfirst_any _ _ [_, _] _ (reps_newN cIntS [_, _] 2 rfl (by decide) _ _ (by simp) rfl)).mono ?_; rintro e w' ⟨rfl, rfl⟩))
 have b2 := bal b1 (.cells #[.int .i64 0, .int .i64 0] 34)
 refine (HO.out _ (hL.below b2)).mono ?_
 rintro e w3 ⟨v3, rfl, ⟨a, c, a2, c2, rfl, RS, RF⟩, b3⟩
 go_wp2_with fail
 refine (HT.out a a2 c c2 _ RS RF).mono ?_
 rintro e w4 ⟨v, qs, rfl, hqs, hS4⟩
 have HQ := hid hqs
 have hS0 := (SL.nil w).mono (bnext b2 b3)
 have hS5 := hS0.call hS4
 rw [List.append_nil] at hS5
 clear hqs hS4 hS0
 go_wp2_with fail
 go_ret2
 exact ⟨v, qs, rfl, HQ.out, hS5⟩
theorem Paint_any (n rows : Nat) (ad a3 : Option Addr) (cap c3 : Nat) (l C : List Int) (w : World) (hL : Ints w ad cap l) (hC : Ints w a3 c3 C) (h : SchOk (n : Int) l) (h2 : PlcOk (n : Int) C) (hr1 : 1 ≤ rows) (hr2 : rows ≤ 24) :
  Calls Tryz.prog 17 #[.int .i64 n, .slice ad l.length cap, .slice a3 C.length c3, .int .i64 rows] w fun r w' => ∃ (v : Value) (qs : List (SlH × List Int)), r = .returned (.tuple #[v, .int .i64 0]) ∧ qs.map Prod.snd = (List.range rows).map (paintAt (seenL n l) (row5 (idL n) l) C) ∧ SL w.heap.size w w' (pOwn cSl 1 22 v (qs.map Prod.fst) :: qs.map inP) := by
 obtain ⟨hp, hfl, hs, hsl⟩ := sch_ok h
 have hn12 := h.hi
 have hn2 := h.lo
 have hl24 := h.le
 have hcl : C.length = n := by have := h2.len; omega
 have HC := hid (fun w hS hC => pCheckPlaced n ad a3 cap c3 l C w hS hC h h2)
 have HO := hid (fun w hS => open_any n ad cap l w hS (by omega) (by omega) (by omega) (by have := h.rng; simpa using this))
 have HT := hid (fun a a2 c c2 w RS RF RC => paint_any rows a a2 a3 c c2 c3 (seenL n l) (row5 (idL n) l) C w hp hs (by omega) (by omega) (by omega) (by omega) RS RF RC)
 obtain ⟨S, hS⟩ : ∃ S, S = seenL n l := ⟨_, rfl⟩
 obtain ⟨F, hF⟩ : ∃ F, F = row5 (idL n) l := ⟨_, rfl⟩
 rw [← hS, ← hF] at HO HT ⊢
 clear hS hF h h2 hp hs hfl hsl hcl
 go_enter Tryz.func17, Tryz.ntmps17
 go_wp2_with fail
 refine (HC.out _ hL hC).mono ?_
 rintro e w1 ⟨rfl, b1⟩
 go_wp2_with ((go_at_call 62; refine (prows_ok _ _ (by omega) (by omega)).mono ?_; rintro e w' ⟨rfl, rfl⟩))
 go_wp2_with ((go_at_call 60; refine (pfirst_any _ _ [_, _] _ (reps_newN cIntS [_, _] 2 rfl (by decide) _ _ (by simp) rfl)).mono ?_; rintro e w' ⟨rfl, rfl⟩))
 have b2 := bal b1 (.cells #[.int .i64 0, .int .i64 0] 34)
 refine (HO.out _ (hL.below b2)).mono ?_
 rintro e w3 ⟨v3, rfl, ⟨a, c, a2, c2, rfl, RS, RF⟩, b3⟩
 have hC3 := hC.below (bnext b2 b3)
 go_wp2_with fail
 refine (HT.out a a2 c c2 _ RS RF hC3).mono ?_
 rintro e w4 ⟨v, qs, rfl, hqs, hS4⟩
 have HQ := hid hqs
 have hS0 := (SL.nil w).mono (bnext b2 b3)
 have hS5 := hS0.call hS4
 rw [List.append_nil] at hS5
 clear hqs hS4 hS0
 go_wp2_with fail
 go_ret2
 exact ⟨v, qs, rfl, HQ.out, hS5⟩
end Go.Proofs.YtglpfpdomnllkaaGreat

namespace Go.Proofs.YtglpfpdomnllkaaGreat
open Go.RowKit
set_option maxHeartbeats 8000000
set_option maxRecDepth 100000
theorem load_chk {m : MacV} {l : List Int} (hm : macE m = 0) : (if 4 * m.gears < (l.length : Int) then (5 : Int) else loadGo m [] l) = loadE m l := by
 have e : loadE m l = (if 4 * m.gears < (l.length : Int) then (5 : Int) else loadGo m [] l) := by
  unfold loadE
  rw [if_neg (by simp [hm])]
 exact e.symm
end Go.Proofs.YtglpfpdomnllkaaGreat

namespace Go.Proofs.YtglpfpdomnllkaaGreat
open Go.RowKit
set_option maxHeartbeats 8000000
set_option maxRecDepth 100000
theorem hv_word : wordE ((2 : Nat) : Int) [-1, -1] = 0 := by decide +kernel
end Go.Proofs.YtglpfpdomnllkaaGreat

namespace Go.Proofs.YtglpfpdomnllkaaGreat
open Go.RowKit
set_option maxHeartbeats 8000000
set_option maxRecDepth 100000
def f10 : List Int := [1, 0]
def f01 : List Int := [0, 1]
theorem f10_isP : IsP f10 := by
 refine ⟨fun x h0 h1 => ?_, fun x y a b c d e => ?_⟩
 ·have h1 : x < 2 := h1
  rcases (by omega : x = 0 ∨ x = 1) with rfl | rfl <;> decide
 ·have h1 : x < 2 := b
  have h2 : y < 2 := d
  rcases (by omega : x = 0 ∨ x = 1) with rfl | rfl <;> rcases (by omega : y = 0 ∨ y = 1) with rfl | rfl
  ·rfl
  ·exact absurd e (by decide)
  ·exact absurd e (by decide)
  ·rfl
theorem f01_isP : IsP f01 := by
 refine ⟨fun x h0 h1 => ?_, fun x y a b c d e => ?_⟩
 ·have h1 : x < 2 := h1
  rcases (by omega : x = 0 ∨ x = 1) with rfl | rfl <;> decide
 ·have h1 : x < 2 := b
  have h2 : y < 2 := d
  rcases (by omega : x = 0 ∨ x = 1) with rfl | rfl <;> rcases (by omega : y = 0 ∨ y = 1) with rfl | rfl
  ·rfl
  ·exact absurd e (by decide)
  ·exact absurd e (by decide)
  ·rfl
theorem ordN_is {p : List Int} {i : Int} {d : Nat} (hp : IsP p) (h0 : 0 ≤ i) (h1 : i < p.length) (h : Ord p i d) : ordN p i = d := ord_uniq (ordN_ok hp h0 h1) h
theorem o10 (k : Nat) (hk : k < 2) : ordN f10 k = 2 := by
 rcases (by omega : k = 0 ∨ k = 1) with rfl | rfl
 ·exact ordN_is f10_isP (by decide) (by decide) ⟨by decide, by decide, by decide, fun j a b => by have e : j = 1 := (by omega); subst e; decide⟩
 ·exact ordN_is f10_isP (by decide) (by decide) ⟨by decide, by decide, by decide, fun j a b => by have e : j = 1 := (by omega); subst e; decide⟩
theorem o01 (k : Nat) (hk : k < 2) : ordN f01 k = 1 := by
 rcases (by omega : k = 0 ∨ k = 1) with rfl | rfl
 ·exact ordN_is f01_isP (by decide) (by decide) ⟨by decide, by decide, by decide, fun j a b => by omega⟩
 ·exact ordN_is f01_isP (by decide) (by decide) ⟨by decide, by decide, by decide, fun j a b => by omega⟩
theorem len01 : LenOk f01 (fun k => if k = 0 then [] else if k = 1 then [1] else [1, 1]) (fun k => if k = 0 then [false, false] else if k = 1 then [true, false] else [true, true]) (fun _ => 1) := by
 refine ⟨rfl, rfl, fun k hk => ?_, fun k hk => ?_, fun k hk h => ?_, fun k hk h => ?_⟩
 ·split; rfl; split; rfl; rfl
 ·split; decide; split; decide; decide
 ·have hk : k < 2 := hk
  rcases (by omega : k = 0 ∨ k = 1) with rfl | rfl <;> exact absurd h (by decide)
 ·have hk : k < 2 := hk
  rw [o01 k hk]
  rcases (by omega : k = 0 ∨ k = 1) with rfl | rfl
  ·exact ⟨rfl, by decide, fun j hj => by have e : j = 0 := (by omega); subst e; decide, by decide⟩
  ·exact ⟨rfl, by decide, fun j hj => by have e : j = 0 := (by omega); subst e; decide, by decide⟩
theorem len10 : LenOk f10 (fun k => if k = 0 then [] else [2]) (fun k => if k = 0 then [false, false] else [true, true]) (fun _ => 2) := by
 refine ⟨rfl, rfl, fun k hk => ?_, fun k hk => ?_, fun k hk h => ?_, fun k hk h => ?_⟩
 ·split; rfl; rfl
 ·split; decide; decide
 ·have hk : k < 2 := hk
  rcases (by omega : k = 0 ∨ k = 1) with rfl | rfl
  ·exact absurd h (by decide)
  ·exact ⟨rfl, rfl⟩
 ·have hk : k < 2 := hk
  rw [o10 k hk]
  rcases (by omega : k = 0 ∨ k = 1) with rfl | rfl
  ·exact ⟨rfl, by decide, fun j hj => by rcases (by omega : j = 0 ∨ j = 1) with rfl | rfl <;> decide, by decide⟩
  ·exact absurd h (by decide)
theorem pow0 : powP f10 0 = f01 := by rw [powP_zero 2 f10 rfl]; rfl
theorem pow1 : powP f10 1 = f10 := by rw [powP_succ' f10_isP, pow0]; rfl
theorem mean3 (a a2 : Option Addr) (c c2 b : Nat) (S : List Int) (w : World) (RF : Ints w a2 c2 f10) (hb : w.cell? ⟨b, 0, none⟩ = some (.int .i64 2)) :
  Calls Tryz.prog 105 #[.agg #[.slice a S.length c, .slice a2 2 c2], .func (.func 106) #[] #[.pointer (some ⟨b, 0, none⟩)]] w fun r w' => r = .returned (.int .i64 3) ∧ Below w.heap.size w w' := by
 have h3 := pmean_any a a2 c c2 b S f10 (fun k => if k = 0 then 1 else 2) (fun r => if r = 0 then 0 else if r = 1 then 4 else 6) (fun r => if r = 0 then [1, 1] else [2]) w f10_isP (by decide) rfl (fun k hk => by
   have hk : k < 2 := hk
   rw [o10 k hk]
   rcases (by omega : k = 0 ∨ k = 1) with rfl | rfl <;> rfl) (fun k hk => by split <;> decide)
  (fun r hr a2 c2 w h => by
   have hr : r < 2 := hr
   rcases (by omega : r = 0 ∨ r = 1) with rfl | rfl
   ·rw [pow0] at h
    exact lengths_any none a2 0 c2 0 f01 _ _ _ w f01_isP (by decide) len01 h
   ·rw [pow1] at h
    exact lengths_any none a2 0 c2 0 f10 _ _ _ w f10_isP (by decide) len10 h)
  (fun r hr => by split <;> decide) rfl (fun r hr => by
   have hr : r < 2 := hr
   rcases (by omega : r = 0 ∨ r = 1) with rfl | rfl <;> rfl) (fun r hr => by split; decide; split <;> decide) RF hb
 exact h3
theorem sch21 : SchOk 2 [1] := scheme_zero (by decide)
theorem sch2w : SchOk ((2 : Nat) : Int) [-1, -1] := scheme_zero (by decide)
theorem open21 (w : World) (ad : Option Addr) (cap : Nat) (hL : Ints w ad cap [1]) : Calls Tryz.prog 63 #[.int .i64 2, .slice ad 1 cap] w fun r w' => ∃ v, r = .returned v ∧ SchV w' v [0] f10 ∧ Below w.heap.size w w' := by
 have h3 := open_any 2 ad cap [1] w hL (by decide) (by decide) (by decide) (fun x hx => by
  rw [List.mem_singleton.1 hx]
  exact ⟨by decide, by decide⟩)
 have e1 : seenL 2 [1] = [0] := by decide
 have e2 : row5 (idL 2) [1] = f10 := by decide
 rw [e1, e2] at h3
 exact h3
theorem pcolours_ok (w : World) : Calls Tryz.prog 104 #[.int .i64 2] w fun r w' => r = .returned (.int .i64 0) ∧ w = w' := by
 go_enter Tryz.func104, Tryz.ntmps104
 go_wp2_with (go_at_call 116; refine (pwithin_ok _ _ _ _ (by decide) (by decide)).mono ?_; rintro e w' ⟨rfl, rfl⟩)
 go_ret
 exact ⟨rfl, rfl⟩
theorem classes_two (w : World) (ad : Option Addr) (cap : Nat) (hL : Ints w ad cap [1]) : Calls Tryz.prog 48 #[.int .i64 2, .slice ad 1 cap, .int .i64 2] w fun r w' => r = .returned (.tuple #[.int .i64 3, .int .i64 0]) ∧ Below w.heap.size w w' := by
 have HC := hid (fun w hS => pCheckScheme 2 ad cap [1] w hS sch21)
 have hb0 := bal (Below.refl w.heap.size w) (.cells #[.int .i64 2] 3)
 have q := heap_alloc_new w (.cells #[.int .i64 2] 3)
 obtain ⟨B, hB⟩ : ∃ B, B = w.heap.size := ⟨_, rfl⟩
 obtain ⟨w0, hw0⟩ : ∃ w0, w0 = w.alloc (.cells #[.int .i64 2] 3) := ⟨_, rfl⟩
 rw [← hw0] at hb0 q
 rw [← hB] at hb0 q
 have HB := hid hB
 have hL0 : Ints w0 ad cap [1] := hL.below (by rw [← hB]; exact hb0)
 clear hL
 go_enter Tryz.func48, Tryz.ntmps48
 go_wp2_with fail
 rw [← hB, ← hw0]
 clear hB hw0
 refine wp_region_qt 5 kR kR ?_
 simp only [List.take_succ_cons, List.take_zero, List.drop_succ_cons, List.drop_zero]
 repeat (first | ((refine wpB_call (.int .i64 0) wU (fun w' => ?_) (fun w' hw' => (HC.out w' (hL0.below hw')).mono fun e w'' h => h) ?_); (focus (go_simp; done)); (try simp only [Act.put, pA, pB, pC])) | ((with_reducible refine wpB_load (by first | exact F_int | fail) wU wU (by assumption) wU ?_); (try simp only [Act.put, pA, pB, pC])) | ((refine wpB_call (.int .i64 0) wU (fun w' => ?_) (fun w' hw' => (pcolours_ok w').mono fun e w'' h => ⟨h.1, by rw [h.2]; exact Below.refl _ _⟩) ?_); (focus (go_simp; done)); (try simp only [Act.put, pA, pB, pC])) |  ((with_reducible refine wpB_load (by first | exact F_int | fail) wU wU (by assumption) wU ?_); (try simp only [Act.put, pA, pB, pC])) | ((with_reducible refine wpB_loadS (n := 2) (us := #[_, _]) (by fail) kR wU wU (by assumption) wU wU ?_); (try simp only [Act.put, pA, pB, pC])) | ((with_reducible refine wpB_loadS (n := 4) (us := #[_, _, _, _]) (by fail) kR wU wU (by assumption) wU wU ?_); (try simp only [Act.put, pA, pB, pC])) | ((refine wpQ_oneG ?_ wU (fun w' => ?_) ?_); rotate_left; (go_simp; rfl); (try simp only [Act.put, pA, pB, pC])))
 refine wpQuiet_nil ?_
 intro w1 hb1
 go_wp2_with ((go_at_call 60; refine (pfirst_any _ _ [_, _] _ (reps_newN cIntS [_, _] 2 rfl (by decide) _ _ (by simp) rfl)).mono ?_; rintro e w' ⟨rfl, rfl⟩))
 have b2 := bal hb1 (.cells #[.int .i64 0, .int .i64 0] 34)
 refine (open21 _ ad cap (hL0.below b2)).mono ?_
 rintro e w3 ⟨v3, rfl, ⟨a, c, a2, c2, rfl, RS, RF⟩, b3⟩
 have b4 := bnext b2 b3
 have q4 := (b4.block B (Array.getElem?_eq_some_iff.1 q).1).trans q
 have cb : w3.cell? ⟨B, 0, none⟩ = some (.int .i64 2) := by simp [World.cell?, q4]
 clear RS
 go_wp2_with fail
 refine (mean3 a a2 c c2 B [0] _ RF cb).mono ?_
 rintro e w5 ⟨rfl, b5⟩
 have hb0' : Below w.heap.size w w0 := by rw [← HB.out]; exact hb0
 have hfin : Below w.heap.size w w5 := bnext hb0' (bnext b4 b5)
 clear q q4 cb
 go_wp2_with fail
 go_ret2
 exact ⟨rfl, hfin⟩
theorem sw1 : seenL 2 [-1, -1] = [1, 0] := by decide
theorem sw2 : row5 (idL 2) [-1, -1] = [0, 1] := by decide
theorem sw3 : permB 2 [-1, -1] = [0, 1] := by decide
theorem sw4 : rowAt [1, 0] [0, 1] 0 = [1, 0] := by
 unfold rowAt
 rw [show powP [0, 1] 0 = [0, 1] by rw [powP_zero 2 [0, 1] rfl]; rfl]
 decide
theorem seen_two (w : World) (ad : Option Addr) (cap : Nat) (hL : Ints w ad cap [-1, -1]) : Calls Tryz.prog 47 #[.int .i64 2, .slice ad 2 cap, .int .i64 1] w fun r w' => ∃ a c xa xc, r = .returned (.tuple #[.slice a 1 c, .int .i64 0]) ∧ Reps cSl 1 w' a c [(xa, 2, xc)] ∧ Ints w' xa xc [1, 0] ∧ Below w.heap.size w w' := by
 have h3 := Seen_any 2 1 ad cap [-1, -1] w hL sch2w (by decide) (by decide)
 rw [sw1, sw2] at h3
 refine h3.mono ?_
 rintro r w' ⟨v, qs, rfl, hq, hS⟩
 have e1 : (List.range 1).map (rowAt [1, 0] [0, 1]) = [[1, 0]] := by
  show [rowAt [1, 0] [0, 1] 0] = _
  rw [sw4]
 rw [e1] at hq
 rcases qs with _ | ⟨⟨h, l⟩, _ | ⟨y, qs⟩⟩
 ·cases hq
 ·simp only [List.map_cons, List.map_nil, List.cons.injEq, and_true] at hq
  subst hq
  obtain ⟨a, c, rfl, hR⟩ := hS.slice 0 rfl
  obtain ⟨xa, xc, e2, hX⟩ := hS.slice 1 rfl
  obtain ⟨h1, h2, h3⟩ := h
  simp only [cSl, Value.slice.injEq] at e2
  obtain ⟨rfl, rfl, rfl⟩ := e2
  exact ⟨a, c, _, _, rfl, hR, hX, hS.b⟩
 ·simp at hq
theorem perm_two (w : World) (ad : Option Addr) (cap : Nat) (hL : Ints w ad cap [-1, -1]) : Calls Tryz.prog 24 #[.int .i64 2, .slice ad 2 cap] w fun r w' => ∃ v, r = .returned (.tuple #[v, .int .i64 0]) ∧ OwnI w.heap.size w' v [0, 1] ∧ Below w.heap.size w w' := by
 have h3 := bPerm_any 2 ad cap [-1, -1] w hL hv_word
 rw [sw3] at h3
 exact h3
theorem thimbleShows_any (w : World) : Calls Tryz.prog 12 #[] w fun r w' => r = .returned (.bool true) ∧ Below w.heap.size w w' := by
 go_enter Tryz.func12, Tryz.ntmps12
 go_wp2_with fail
 refine (one_word _ _ (reps_of_own (own_newN cIntS [0, 2] 2 rfl (by decide) _ rfl (Nat.le_refl _) rfl) rfl)).mono ?_
 rintro e w1 ⟨v1, rfl, ho1, b1⟩
 obtain ⟨aW, cW, rfl, hW, _, _⟩ := ho1.reps
 have t1 := bnext (bal (Below.refl _ _) _) b1
 clear ho1 b1
 go_wp2_with fail
 refine (seen_two _ aW cW hW).mono ?_
 rintro e w2 ⟨aS, cS, xa, xc, rfl, hS, hX, b2⟩
 have hW2 := hW.below b2
 have t2 := bnext t1 b2
 clear hW b2 t1
 go_wp2_with fail
 refine (perm_two _ aW cW hW2).mono ?_
 rintro e w3 ⟨v3, rfl, ho3, b3⟩
 obtain ⟨aP, cP, rfl, hP, _, _⟩ := ho3.reps
 have hS3 := hS.below b3
 have hX3 := hX.below b3
 have t3 := bnext t2 b3
 clear ho3 hW2 hS hX b3 t2
 go_wp2_with fail
 refine (classes_two _ _ _ (reps_of_own (own_newN cIntS [1] 1 rfl (by decide) _ rfl (Nat.le_refl _) rfl) rfl)).mono ?_
 rintro e w4 ⟨rfl, b4⟩
 replace b4 := bnext (bal (Below.refl _ _) _) b4
 have hS4 := hS3.below b4
 have hX4 := hX3.below b4
 have hP4 := hP.below b4
 have t4 := bnext t3 b4
 clear hS3 hX3 hP b4 t3
 have z0 : atD ((none, 0, 0) : SlH) [(xa, 2, xc)] (0 : Nat) = (xa, 2, xc) := rfl
 go_wp2_with ((first | (with_reducible refine wpList_idxG ((none, 0, 0) : SlH) E_sls F_sl cSl1 wU wU (hS4) (rfl) oD oD (fun _ => wU) wU (fun _ => wU) (fun _ => ?_)) | (with_reducible refine wpList_idxN _ ((none, 0, 0) : SlH) E_sls F_sl cSl1 wU wU (hS4) (rfl) oD oD (fun _ => wU) (fun _ => ?_))))
 refine (amSame xa _ xc 2 2 [1, 0] _ (hX4.below (bal (Below.refl _ _) _)) (reps_of_own (own_newN cIntS [1, 0] 2 rfl (by decide) _ rfl (Nat.le_refl _) rfl) rfl) rfl (by decide)).mono ?_
 rintro e w5 ⟨rfl, b5⟩
 replace b5 := bnext (bal (Below.refl _ _) _) b5
 have hP5 := hP4.below b5
 have t5 := bnext t4 b5
 clear hS4 hX4 hP4 b5 t4 z0
 go_wp2_with fail
 refine (amSame aP _ cP 2 2 [0, 1] _ (hP5.below (bal (Below.refl _ _) _)) (reps_of_own (own_newN cIntS [0, 1] 2 rfl (by decide) _ rfl (Nat.le_refl _) rfl) rfl) rfl (by decide)).mono ?_
 rintro e w6 ⟨rfl, b6⟩
 replace b6 := bnext (bal (Below.refl _ _) _) b6
 go_wp2_with fail
 go_ret
 exact ⟨rfl, bnext t5 b6⟩
end Go.Proofs.YtglpfpdomnllkaaGreat
