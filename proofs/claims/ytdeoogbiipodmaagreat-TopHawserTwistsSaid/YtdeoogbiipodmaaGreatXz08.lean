/- Contracts and plain facts that the claim uses (MbW RmP AlA QsG NrP NrM TpF MbJ MaC). Conditions: as each one states. -/
import Derived.RangeFuncNested
import Derived.RangeFuncBound
import Derived.RangeFuncCalls
import Derived.RangeFuncLeaves
import Derived.RangeFuncFrom
import Derived.Shelf.Abstract
import Derived.Shelf.RegionOpen
import Derived.WalkKit
import Derived.OwnWalkIn
import Derived.TacticsInMore
import Derived.LoopNIn
import Derived.LoopIn
import Derived.Test.YtdeoogbiipodmaaGreatProg
import Derived.WalkSpells
import Derived.Maps.AppendAt
import Derived.Deep.Quiet
import Derived.Maps.Own
import Derived.Maps.OwnSet
import Derived.Maps.Views
import Derived.WalkLawsBesides
import Derived.Laws.EntriesVeiled
import Derived.Deep.QuietTactic
import Derived.BigQuiet
import Derived.Shelf.Strings.Trim
import Derived.Shelf.Strings.SlTrimAscii
import Derived.Shelf.Strings.Repeat
import Derived.Shelf.Strings.OnBuilder
import Derived.Shelf.Strconv.Itoa1
import Derived.Shelf.Strconv.Itoa3
import Derived.Shelf.LaysM
import Derived.Ground.Names2Prog
import Derived.Lib.OthersKept
import Derived.Deep.RegionHeld3
import Derived.Deep.AppendLies
import Derived.Deep.RegionHeldLaw
import Derived.Deep.RegionLaw
import Derived.StillTail
import Derived.Laws.Tables
import Derived.IntWalk
import Derived.Laws.CopyOwn
import Derived.BigRegion
import Derived.ChangeAlike
import Derived.Shelf.Bits.Mul64
import Derived.Lib.ItoaLen
import Derived.Lib.ItoaMem
import Derived.Sort.LoopGhostIn
import Derived.Maps.RangeWalk
import Derived.Sort.QuietThIn
import Derived.Maps.Ext
import Derived.Deep.LoopGhost
import Derived.Lib.Split
import Derived.Lib.AtoiAll
import Derived.Lib.AppendIntMem
import Derived.Lib.SmallJoins
import Derived.LaidSub
import Derived.Lib.LaidTab
import Derived.Lib.AtoiErrMem
import Derived.Stop.LaidErr
import Derived.ReadAgain
import Derived.ChangeSlices
import Derived.OpenShut
import Derived.ProofKit
import Derived.Deep.DeepHandedRow
import Derived.Deep.SlicePairs
import Derived.Test.YtdeoogbiipodmaaGreatXz01
import Derived.Test.YtdeoogbiipodmaaGreatXz02
import Derived.Test.YtdeoogbiipodmaaGreatXz03
import Derived.Test.YtdeoogbiipodmaaGreatXz04
import Derived.Test.YtdeoogbiipodmaaGreatXz05
import Derived.Test.YtdeoogbiipodmaaGreatXz06
import Derived.Test.YtdeoogbiipodmaaGreatXz07
set_option linter.all false

namespace Go.Proofs.YtdeoogbiipodmaaGreat
open Go.RowKit
set_option maxHeartbeats 8000000
set_option maxRecDepth 100000

/-- the word and its error. -/
noncomputable def wrdL (m : MacV) (l : List Int) (n : Int) : List Int := (wvM m l n.toNat).2
noncomputable def wrdE (m : MacV) (l : List Int) (n : Int) : Int := if weaveE m l n ≠ 0 then weaveE m l n else if 200 < (wrdL m l n).length then 26 else 0
theorem atL_zero (m : MacV) (l : List Int) : atL m l 0 = l := by
 unfold atL
 conv => rhs; rw [← List.map_id l]
 exact List.map_congr_left (fun x _ => rfl)
theorem atL_len (m : MacV) (l : List Int) (k : Nat) : (atL m l k).length = l.length := by simp [atL]
theorem wvM_len {m : MacV} (hg : m.gears ≤ 16) (l : List Int) : ∀ k : Nat, (wvM m l k).2.length ≤ 48 * k
 | 0 => by simp [wvM]
 | k + 1 => by
   have := wvM_len hg l k
   have h2 := crossM_len m (atL m l k)
   rw [wvM, weaveS_len]
   omega
theorem foldC_step {cs : List CrM} {i : Nat} (h : i < cs.length) (st : List Int × List Int) : (cs.take (i + 1)).foldl weaveC st = weaveC ((cs.take i).foldl weaveC st) (atD ⟨0, 0, 0, 0⟩ cs i) := by
 rw [List.take_succ_eq_append_getElem h, List.foldl_append]
 simp [atD, h]

theorem weaveC_at {st : List Int × List Int} {c : CrM} {p : Nat} (h : idxO st.1 c.going = some (p : Int)) : weaveC st c = (swpL st.1 p, st.2 ++ [if c.over = c.going then (p : Int) + 1 else -(p : Int) - 1]) := by
 have e : idxZ st.1 c.going = p := by unfold idxZ; rw [h]; rfl
 unfold weaveC letterC
 rw [e]
 rfl

section
variable {ops : Array Oper} {rest : List Oper} {a : Act} {Q : Exit → Act → World → Prop} {w : World} {ty : TypeId} {p : String} {af : Array Edge}
theorem wpList_stoI {x y : Operand} {pa : Addr} {u : Value} {v : Int} (hx : a.eval x = .pointer (some pa)) (hy : a.eval y = .int .i64 v) (hc : w.cell? pa = some u) (hf : w.frozen? pa = false)
  (h : wpList Tryz.prog ops Q rest (a.put none undef) (w.setCell pa (.int .i64 v))) :
  wpList Tryz.prog ops Q (⟨none, .store 3 x y, ty, p, af, none⟩ :: rest) a w := by
 refine wpList_plain rfl fun K hK' => ?_
 have hs := sto_int v w pa (by rw [hc]; rfl) hf
 unfold cInt at hs
 unfold Oper.wp
 simp only [execOp, hx, hy]
 simp [hs, Result.andThen]
 exact hK' _ _ h
end

theorem wrapP1 (p : Nat) (h : p ≤ 1000) : IntKind.i64.wrap ((p : Int) + 1) = (p : Int) + 1 := IntWalk.i64_in _ (by omega)
theorem wrapQ1 (p : Nat) (h : p ≤ 1000) : wrap64 ((p : Int) + 1) = (p : Int) + 1 := IntWalk.wrap64_in _ (by omega)
theorem wrapN1 (p : Nat) (h : p ≤ 1000) : IntKind.i64.wrap (-(p : Int)) = -(p : Int) := IntWalk.i64_in _ (by omega)
theorem wrapN2 (p : Nat) (h : p ≤ 1000) : IntKind.i64.wrap (-(p : Int) - 1) = -(p : Int) - 1 := IntWalk.i64_in _ (by omega)

theorem pkB (p K : Nat) (h : p + 1 < K) (h2 : K ≤ 64) : p ≤ 1000 ∧ (¬ (K : Int) ≤ (p : Int) + 1) ∧ (0 : Int) ≤ (p : Int) + 1 ∧ ¬ K ≤ p ∧ ¬ (K : Int) ≤ (p : Int) ∧ (p : Int) + 1 < K ∧ p < K := by
 refine ⟨?_, ?_, ?_, ?_, ?_, ?_, ?_⟩ <;> omega

theorem mWord_any (m : MacV) (ad : Option Addr) (cap : Nat) (al : Option Addr) (cl : Nat) (l : List Int) (n : Int) (w : World) (hR : Ints w ad cap m.sw) (hL : Ints w al cl l) (HK : ChkL m ad cap al cl l) :
  Calls Tryz.prog 7 #[mV m ad cap, .slice al l.length cl, .int .i64 n] w fun r w' => ∃ v, r = .returned (.tuple #[v, .int .i64 (wrdE m l n)]) ∧ OwnI w.heap.size w' v (if wrdE m l n = 0 then wrdL m l n else []) ∧ Below w.heap.size w w' := by
 have hcap := hL.le
 have hmx := hL.max
 have hS := (SL.nil w).box (.cells (mC m ad cap) 24)
 have q1 := (hS.blk 0 rfl).1
 have R1 := hR.below hS.b
 have L1 := hL.below hS.b
 have CW := checkWeave_any m ad cap al cl l n _ R1 L1 HK
 by_cases he : weaveE m l n = 0
 ·obtain ⟨hok, hr, hl12, hn0, hn1, hme⟩ := weaveE_zero he
  have hlo := hok.ok.lo
  have hhi := hok.ok.hi
  obtain ⟨N, rfl⟩ : ∃ N : Nat, n = N := ⟨n.toNat, by omega⟩
  have hrows := fun k hk => wvM_row hr hok.rng hme k hk
  have hsteps := fun k => atL_succ hok.rng k
  have hrngs := fun k => atL_rng hok.rng k
  have CO := fun w h => order_any m ad cap al cl l w h (by omega) hhi
  have CX := fun (k : Nat) a c w (h : Ints w a c (atL m l k)) => crossings_any m ad cap a c (atL m l k) w h (by omega) hhi
  have CN := fun (k : Nat) a c w (h : Ints w a c (atL m l k)) (h2 : Ints w ad cap m.sw) => mappedN_any (mV m ad cap) (nextM m) a c (atL m l k) w h (by rw [atL_len]; omega) (fun x hx w' hw' => mnext_any m ad cap x w' (h2.below hw') hhi (hrngs k x hx).1 (hrngs k x hx).2)
  have hgood := fun k => crossM_good m (atL m l k)
  have hcl := fun k => crossM_len m (atL m l k)
  have hv : wrdE m l N = if 200 < (wvM m l N).2.length then 26 else 0 := by unfold wrdE wrdL; rw [if_neg (by simp [he])]; rfl
  have hw : wrdL m l N = (wvM m l N).2 := rfl
  rw [hv, hw]
  rw [he] at CW
  have HC := hid CW; have HO := hid CO; have HX := hid CX; have HN := hid CN; have HROW := hid hrows; have HST := hid hsteps; have HG := hid hgood; have HCL := hid hcl
  clear CW CO CX CN hrows hsteps hrngs hgood hcl hv hw he hok hr hme HK
  go_enter Tryz.func7, Tryz.ntmps7
  go_wp2
  go_step3
  go_wp2_with (with_reducible refine wpList_ldS (n := 4) (us := mC m ad cap) A_mach kR wU wU (by assumption) wU wU ?_)
  refine HC.out.mono ?_
  rintro e w1 ⟨rfl, b1⟩
  have hS1 := hS.mono b1
  have q2 := (hS1.blk 0 rfl).1
  clear q1
  go_wp2_with (with_reducible refine wpList_ldS (n := 4) (us := mC m ad cap) A_mach kR wU wU (by assumption) wU wU ?_)
  refine (HO.out _ (hL.below hS1.b)).mono ?_
  rintro e w2 ⟨v2, rfl, ho2, b2⟩
  have hS2 := hS1.call (SL.ofOwn ho2 b2)
  simp only [List.cons_append, List.nil_append] at hS2
  have hS3 := ((hS2.newSrc hL).nilS (α := Int) (c := cInt) (sz := 1) (e := 3) cIntS).pick [2, 0, 1, 3] (by decide) [pOwn cInt 1 3 v2 (orderM m l), pOwn cInt 1 3 (.slice none 0 0) [], pSrc cInt 1 3 w (.slice al l.length cl) l, pBlk w.heap.size (.cells (mC m ad cap) 24)] rfl
  clear q2 hS2 hS1 hS ho2
  obtain ⟨a2, c2, rfl, _⟩ := hS3.slice 0 rfl
  obtain ⟨K, hK⟩ : ∃ K, K = (orderM m l).length := ⟨_, rfl⟩
  rw [← hK] at hS3 ⊢
  have hK64 : K ≤ 64 := by have := orderM_len m l; omega
  clear hK
  go_wp2_with fail
  go_step3
  go_wp2
  obtain ⟨Z, hZ⟩ : ∃ Z, Z = (wvM m l N).2.length := ⟨_, rfl⟩
  have HZ := hid hZ
  clear hZ
  go_loopg [26, 1, 10] N (fun g i lv ov wr => ∃ k : Nat, k + g = N ∧ i = .int .i64 k ∧ lenV ov = (wvM m l k).2.length ∧ SL w.heap.size w wr [pOwn cInt 1 3 (.slice a2 K c2) ((wvM m l k).1), pOwn cInt 1 3 ov ((wvM m l k).2), pSrc cInt 1 3 w lv (atL m l k), pBlk w.heap.size (.cells (mC m ad cap) 24)])
  case atStart => exact ⟨0, by omega, rfl, rfl, by rw [atL_zero]; exact hS3⟩
  case round =>
   clear hS3
   obtain ⟨k, hk, rfl, hlo, hSr⟩ := hrel
   cases gk with
   | zero =>
    have hkn : k = N := by omega
    subst hkn
    obtain ⟨ao, co, rfl, _⟩ := hSr.slice 1 rfl
    obtain ⟨O, hO⟩ : ∃ O, O = (wvM m l k).2 := ⟨_, rfl⟩
    rw [← hO] at hSr ⊢
    have HO2 := hid hO; have hSx := hid hSr
    clear hO hSr hlo
    by_cases hb : 200 < O.length
    ·have hb2 : ¬ O.length ≤ 200 := by omega
     go_wp2_with fail
     try rw [Exit.noGoto_ret]
     go_ret2
     rw [← HO2.out, if_pos hb, if_neg (by decide)]
     exact ⟨_, rfl, own_nil cIntS, hSx.out.b⟩
    ·go_wp2_with fail
     try rw [Exit.noGoto_ret]
     go_ret2
     rw [← HO2.out, if_neg hb, if_pos rfl]
     exact ⟨_, rfl, hSx.out.own 1 rfl, hSx.out.b⟩
   | succ g =>
    have hlt : k < N := by omega
    have hnx : wvM m l (k + 1) = (crossM m (atL m l k)).foldl weaveC (wvM m l k) := rfl
    have hgd := HG.out k
    have hcln := HCL.out k
    have hrw := HROW.out k (by omega)
    have hwl := wvM_len (m := m) hhi l k
    rw [← hrw] at hgd
    obtain ⟨a1, c1, rfl, hl1⟩ := hSr.src 2 rfl
    have q1 := (hSr.blk 3 rfl).1
    have HX1 := hid (HX.out k a1 c1)
    obtain ⟨cs, hcs⟩ : ∃ cs, cs = crossM m (atL m l k) := ⟨_, rfl⟩
    rw [← hcs] at HX1 hgd hcln hnx
    obtain ⟨r0, hr0⟩ : ∃ r0, r0 = (wvM m l k).1 := ⟨_, rfl⟩
    obtain ⟨o0, ho0⟩ : ∃ o0, o0 = (wvM m l k).2 := ⟨_, rfl⟩
    have hpr : wvM m l k = (r0, o0) := by rw [hr0, ho0]
    rw [hpr] at hnx
    rw [← hr0] at hgd hSr
    rw [← ho0] at hwl hlo hSr
    have HNX := hid hnx; have HGD := hid hgd; have HLO := hid hlo
    clear hcs hnx hgd hr0 ho0 hpr hlo hrw
    have hcl48 : cs.length ≤ 48 := by omega
    have hw5 : o0.length ≤ 48000 := by omega
    clear hcln hwl
    go_wp2_with (with_reducible refine wpList_ldS (n := 4) (us := mC m ad cap) A_mach kR wU wU (by assumption) wU wU ?_)
    refine (HX1.out _ hl1).mono ?_
    rintro e w3 ⟨vx, rfl, hox, b3⟩
    have hS4 := hSr.call (SL.ofOwn hox b3)
    simp only [List.cons_append, List.nil_append] at hS4
    obtain ⟨ax, cx, rfl, _⟩ := hS4.slice 0 rfl
    clear q1 hSr hox b3 hl1
    go_wp2_with fail
    go_loopg [32, 10] cs.length (fun g2 j ov wq => ∃ i : Nat, i + g2 = cs.length ∧ j = .int .i64 i ∧ lenV ov = o0.length + i ∧ SL w.heap.size w wq [pOwn cCr 4 60 (.slice ax cs.length cx) cs, pOwn cInt 1 3 (.slice a2 K c2) ((cs.take i).foldl rowC r0), pOwn cInt 1 3 ov ((cs.take i).foldl weaveC (r0, o0)).2, pSrc cInt 1 3 w (.slice a1 (atL m l k).length c1) (atL m l k), pBlk w.heap.size (.cells (mC m ad cap) 24)])
    case atStart => exact ⟨0, by omega, rfl, by rw [HLO.out]; omega, hS4⟩
    case round =>
     clear hS4
     obtain ⟨i, hi, rfl, hlo, hSq⟩ := hrel
     cases gk with
     | zero =>
      have hic : cs.take i = cs := List.take_of_length_le (by omega)
      rw [hic] at hSq
      have e1 : cs.foldl rowC r0 = (wvM m l (k + 1)).1 := by rw [HNX.out, fold_fst]
      have e2 : (cs.foldl weaveC (r0, o0)).2 = (wvM m l (k + 1)).2 := by rw [HNX.out]
      rw [e1, e2] at hSq
      obtain ⟨O, hO⟩ : ∃ O, O = (wvM m l (k + 1)).2 := ⟨_, rfl⟩
      rw [← hO] at hSq
      obtain ⟨ao, co, rfl, _⟩ := hSq.slice 2 rfl
      obtain ⟨a4, c4, e4, hl4⟩ := hSq.src 3 rfl
      cases e4
      have hmono := wvM_mono m l (j := k + 1) (k := N) (by omega)
      rw [← hO] at hmono
      have HO2 := hid hO; have hSx := hid hSq; have HM := hid hmono
      have q1 := (hSq.blk 4 rfl).1
      have R4 := hR.below hSq.b
      clear hO hSq hlo hic e1 e2 hmono
      by_cases hb : 200 < O.length
      ·have hb2 : ¬ O.length ≤ 200 := by omega
       have hb3 : decide (200 < (O.length : Int)) = true := decide_eq_true (by omega)
       go_wp2_with fail
       try rw [Exit.noGoto_ret]
       go_ret2
       rw [if_pos (by have := HM.out; omega), if_neg (by decide)]
       exact ⟨_, rfl, own_nil cIntS, hSx.out.b⟩
      ·have hb3 : decide (200 < (O.length : Int)) = false := decide_eq_false (by omega)
       go_wp2_with (with_reducible refine wpList_ldS (n := 4) (us := mC m ad cap) A_mach kR wU wU (by assumption) wU wU ?_)
       refine (HN.out k _ _ _ hl4 R4).mono ?_
       rintro e w5 ⟨vl, rfl, hol, b5⟩
       have hS6 := hSx.out.call (SL.ofOwn hol b5)
       simp only [List.cons_append, List.nil_append] at hS6
       have hst : (atL m l k).map (nextM m) = atL m l (k + 1) := HST.out k
       rw [hst] at hS6
       have hS7 := (hS6.weaken 0 rfl (pSrc cInt 1 3 w vl (atL m l (k + 1))) (fun b hb => .inr hb)).pick [2, 3, 0, 5] (by decide) [pOwn cInt 1 3 (.slice a2 K c2) (wvM m l (k + 1)).1, pOwn cInt 1 3 (.slice ao O.length co) O, pSrc cInt 1 3 w vl (atL m l (k + 1)), pBlk w.heap.size (.cells (mC m ad cap) 24)] rfl
       go_wp2_with fail
       go_roundg g
       case measure => omega
       case rel => exact ⟨k + 1, by omega, by go_num, by rw [← HO2.out]; rfl, by rw [← HO2.out]; exact hS7⟩
     | succ g2 =>
      have hic : i < cs.length := by omega
      obtain ⟨p, hp, hp1⟩ := goodC_at HGD.out hic
      have hst := foldC_step hic (r0, o0)
      have hwe : weaveC ((cs.take i).foldl weaveC (r0, o0)) (atD ⟨0, 0, 0, 0⟩ cs i) = (swpL ((cs.take i).foldl rowC r0) p, ((cs.take i).foldl weaveC (r0, o0)).2 ++ [if (atD ⟨0, 0, 0, 0⟩ cs i).over = (atD ⟨0, 0, 0, 0⟩ cs i).going then (p : Int) + 1 else -(p : Int) - 1]) := by
       have ec : atD (⟨0, 0, 0, 0⟩ : CrM) cs i = cs[i] := by simp [atD, hic]
       rw [ec]
       rw [weaveC_at (p := p) (by rw [fold_fst]; exact hp), fold_fst]
      rw [hwe] at hst
      have hst1 : (cs.take (i + 1)).foldl rowC r0 = swpL ((cs.take i).foldl rowC r0) p := by
       have := congrArg Prod.fst hst
       rw [fold_fst] at this
       exact this
      have hst2 := congrArg Prod.snd hst
      obtain ⟨R, hRr⟩ : ∃ R, R = (cs.take i).foldl rowC r0 := ⟨_, rfl⟩
      obtain ⟨O, hO⟩ : ∃ O, O = ((cs.take i).foldl weaveC (r0, o0)).2 := ⟨_, rfl⟩
      obtain ⟨x, hx⟩ : ∃ x, x = atD (⟨0, 0, 0, 0⟩ : CrM) cs i := ⟨_, rfl⟩
      have hpx : idxO R x.going = some (p : Int) := by
       rw [hx, hRr]
       have ec : atD (⟨0, 0, 0, 0⟩ : CrM) cs i = cs[i] := by simp [atD, hic]
       rw [ec]; exact hp
      rw [← hRr] at hSq hst1 hp1
      rw [← hO] at hSq hst2
      rw [← hx] at hst2
      have HX2 := hid hx; have HS1 := hid hst1; have HS2 := hid hst2
      clear hst hst1 hst2 hwe hp hRr hO hx
      obtain ⟨a', c', eK, _⟩ := hSq.slice 1 rfl
      have hKR : K = R.length := by simp only [Value.slice.injEq] at eK; exact eK.2.1
      clear eK
      obtain ⟨a8, c8, rfl, _⟩ := hSq.slice 2 rfl
      have hOl : O.length = o0.length + i := hlo
      have hO9 : O.length ≤ 1000000 := by omega
      have HOl := hid hOl
      clear hOl hlo
      have hRx := hSq.rd 0 rfl
      have hSc := hSq.box (.cells #[.int .i64 x.gear, .int .i64 x.over, .int .i64 x.under, .int .i64 x.going] 60)
      have q12 := (hSc.blk 0 rfl).1
      have CI := fun w h => sIndexO_any a2 c2 R x.going w h
      rw [hpx, ← hKR] at CI
      simp only [Option.getD_some] at CI
      have HI := hid CI; have HKR := hid hKR
      have hpK : p + 1 < K := by omega
      clear CI hKR hpx hp1
      go_wp2_with (first | ((with_reducible refine wpList_idxS _ ⟨0, 0, 0, 0⟩ E_crs A_crs cCr1 wU wU (hRx) oD oD (fun _ => wU) (fun _ => ?_)); rw [← HX2.out]) | (with_reducible refine wpList_ldB (by first | exact F_int | fail) wU wU (by assumption) wU ?_))
      refine (HI.out _ (hSc.rd 2 rfl)).mono ?_
      rintro e w' ⟨rfl, rfl⟩
      obtain ⟨V, hV⟩ : ∃ V, V = wr.alloc (.cells #[.int .i64 x.gear, .int .i64 x.over, .int .i64 x.under, .int .i64 x.going] 60) := ⟨_, rfl⟩
      obtain ⟨b12, hb12⟩ : ∃ b, b = wr.heap.size := ⟨_, rfl⟩
      rw [← hV, ← hb12] at hSc q12 ⊢
      clear hV hb12 hRx q12
      have hKR := HKR.out
      have hSU := hSc.drew
      obtain ⟨U, hU⟩ : ∃ U, U = V.drew := ⟨_, rfl⟩
      rw [← hU] at hSU
      obtain ⟨g, hg, -, hcA, hfA, hS5⟩ := hSU.setOwn cInt1 2 rfl (p : Int) (by omega) (by omega) (atD 0 R ((p : Int) + 1))
      subst hg
      obtain ⟨g', hg', -, hcB, hfB, hS6⟩ := hS5.setOwn cInt1 2 rfl ((p : Int) + 1) (by omega) (by simp; omega) (atD 0 R (p : Int))
      cases hg'
      obtain ⟨g', hg', -, hcC, hfC, -⟩ := hSU.setOwn cInt1 2 rfl ((p : Int) + 1) (by omega) (by omega) 0
      cases hg'
      have eP : (p : Int).toNat = p := by simp
      have eP1 : ((p : Int) + 1).toNat = p + 1 := by omega
      have vA : R[p]?.map cInt = some (.int .i64 (atD 0 R (p : Int))) := by
       have : p < R.length := by omega
       simp [atD, this, cInt]
      have vB : R[p + 1]?.map cInt = some (.int .i64 (atD 0 R ((p : Int) + 1))) := by
       have : p + 1 < R.length := by omega
       simp [atD, eP1, this, cInt]
      simp only [eP, eP1] at hcA hfA hcB hfB hcC hfC hS5 hS6
      rw [vA] at hcA
      rw [vB] at hcC
      have hcB2 : (R.set p (atD 0 R ((p : Int) + 1)))[p + 1]?.map cInt = some (.int .i64 (atD 0 R ((p : Int) + 1))) := by
       rw [List.getElem?_set_ne (by omega)]; exact vB
      rw [hcB2] at hcB
      have hsw : (R.set p (atD 0 R ((p : Int) + 1))).set (p + 1) (atD 0 R (p : Int)) = swpL R p := by
       unfold swpL atD
       rw [eP1, eP]
      rw [hsw] at hS6
      obtain ⟨A0, hA0⟩ : ∃ A, A = atD 0 R (p : Int) := ⟨_, rfl⟩
      obtain ⟨A1, hA1⟩ : ∃ A, A = atD 0 R ((p : Int) + 1) := ⟨_, rfl⟩
      rw [← hA0] at hcA hS6
      rw [← hA1] at hcC hcB hfB hS5 hS6
      simp only [cInt] at hcB hfB hS5 hS6
      obtain ⟨hp9, hkA, hkB, hkC, hkD, hkE, hkF⟩ := pkB p K hpK hK64
      have hw1 := wrapQ1 p hp9
      have hw2 := wrapP1 p hp9
      have hUb := hSU.b
      clear hcB2 vA vB hA0 hA1 hsw hKR hSc hSq eP eP1
      go_wp2_with fail
      refine wp_regionK (C := (fun V' => Below w.heap.size w V')) [0, 1, 2, 3, 4, 5, 6, 7, 8, 10, 11, 12] [_, _, _, _, _, _, _, _, _, _, _, _] 6 (by simp only [List.map_cons, List.map_nil, List.getElem?_toArray]; rfl) rfl kR kR kR ((by rw [hU] at hUb; exact hUb)) ?_
      refine ⟨_, yieldsK_val wU (fun w' => by with_unfolding_all exact rfl), ?_⟩
      go_frame
      refine ⟨_, yieldsK_val wU (fun w' => by with_unfolding_all exact rfl), ?_⟩
      go_frame
      refine ⟨_, yieldsK_val wU (fun w' => by with_unfolding_all exact rfl), ?_⟩
      go_frame
      refine ⟨_, yieldsK_val wU (fun w' => by with_unfolding_all exact rfl), ?_⟩
      go_frame
      refine ⟨.int .i64 ((p : Int) + 1), yieldsK_val wU (fun w' => by first | (go_simp; done) | (go_simp; rfl)), ?_⟩
      go_frame
      refine ⟨_, yieldsK_val wU (fun w' => by with_unfolding_all exact rfl), ?_⟩
      go_frame
      refine ⟨_, yieldsK_val wU (fun w' => by with_unfolding_all exact rfl), ?_⟩
      go_frame
      refine ⟨.int .i64 ((p : Int) + 1), yieldsK_val wU (fun w' => by first | (go_simp; done) | (go_simp; rfl)), ?_⟩
      go_frame
      refine ⟨.pointer (some ⟨g, p + 1, none⟩), yieldsK_val wU (fun w' => by first | (go_simp; done) | (go_simp; rfl)), ?_⟩
      go_frame
      refine ⟨_, yieldsK_val wU (fun w' => by with_unfolding_all exact rfl), ?_⟩
      go_frame
      refine ⟨_, yieldsK_val wU (fun w' => by with_unfolding_all exact rfl), ?_⟩
      go_frame
      refine ⟨.pointer (some ⟨g, p, none⟩), yieldsK_val wU (fun w' => by first | (go_simp; done) | (go_simp; rfl)), ?_⟩
      go_frame
      unfold wpPureK
      have hVd : ({ V with drawn := V.drawn + 1 } : World) = V.drew := rfl
      rw [hVd, ← hU]
      clear hVd hU
      refine wpAnyC_on [9, 13] kR (by simp) ?_
      simp only [List.forall_mem_cons, List.not_mem_nil, false_implies, implies_true, and_true]
      refine ⟨?_, ?_⟩
      ·refine wpOp_value (v := .int .i64 A1) (w' := U) (by rw [List.getElem?_toArray]; rfl) wU (by first | (go_simp; done) | (go_simp; rfl) | (simp [execOp, Act.eval, Result.andThen]; done)) ?_
       refine ⟨hSU.b, ?_⟩
       go_frame
       refine wpAnyC_on [13] kR (by simp) ?_
       simp only [List.forall_mem_cons, List.not_mem_nil, false_implies, implies_true, and_true]
       refine wpOp_value (v := .int .i64 A0) (w' := U) (by rw [List.getElem?_toArray]; rfl) wU (by first | (go_simp; done) | (go_simp; rfl) | (simp [execOp, Act.eval, Result.andThen]; done)) ?_
       refine ⟨hSU.b, ?_⟩
       go_frame
       refine wpAnyC_on [14] kR (by simp) ?_
       simp only [List.forall_mem_cons, List.not_mem_nil, false_implies, implies_true, and_true]
       refine wpOp_value (v := .pointer (some ⟨g, p, none⟩)) (w' := U) (by rw [List.getElem?_toArray]; rfl) wU (by first | (go_simp; done) | (go_simp; rfl) | (simp [execOp, Act.eval, Result.andThen]; done)) ?_
       refine ⟨hSU.b, ?_⟩
       go_frame
       refine wpAnyC_on [15] kR (by simp) ?_
       simp only [List.forall_mem_cons, List.not_mem_nil, false_implies, implies_true, and_true]
       refine wpOp_of_list (by rw [List.getElem?_toArray]; rfl) ?_
       refine wpList_stoI (v := A1) wU wU hcA hfA ?_
       refine ⟨hS5.b, ?_⟩
       go_frame
       refine wpAnyC_on [16] kR (by simp) ?_
       simp only [List.forall_mem_cons, List.not_mem_nil, false_implies, implies_true, and_true]
       refine wpOp_value (v := .pointer (some ⟨g, p + 1, none⟩)) (w' := (U.setCell ⟨g, p, none⟩ (.int .i64 A1))) (by rw [List.getElem?_toArray]; rfl) wU (by first | (go_simp; done) | (go_simp; rfl) | (simp [execOp, Act.eval, Result.andThen]; done)) ?_
       refine ⟨hS5.b, ?_⟩
       go_frame
       refine wpAnyC_on [17] kR (by simp) ?_
       simp only [List.forall_mem_cons, List.not_mem_nil, false_implies, implies_true, and_true]
       refine wpOp_of_list (by rw [List.getElem?_toArray]; rfl) ?_
       refine wpList_stoI (v := A0) wU wU hcB hfB ?_
       refine ⟨hS6.b, ?_⟩
       go_frame
       refine wpAnyC_rest [] [] rfl rfl kR kR kR hS6.b ?_
       unfold wpPure
       refine of_wpList_nil (P := Tryz.prog) (ops := #[]) ?_
       obtain ⟨U2, hU2⟩ : ∃ U2, U2 = (U.setCell ⟨g, p, none⟩ (.int .i64 A1)).setCell ⟨g, p + 1, none⟩ (.int .i64 A0) := ⟨_, rfl⟩
       rw [← hU2] at hS6 ⊢
       clear hU2 hS5 hcA hcB hcC hfA hfB hfC hkA hkB hkC hkD hkE hkF hw1
       have q12 := (hS6.blk 0 rfl).1
       have hwn := wrapN1 p hp9
       have hwn2 := wrapN2 p hp9
       by_cases ho : x.over = x.going
       ·have d1 : (x.over == x.going) = true := by simpa using ho
        have e1 : (if x.over = x.going then (p : Int) + 1 else -(p : Int) - 1) = (p : Int) + 1 := if_pos ho
        have hst2 := HS2.out
        rw [e1] at hst2
        have HS3 := hid hst2
        clear ho e1 hst2
        go_wp2_with (first | (with_reducible refine wpList_ldS (n := 3) (us := #[.int .i64 x.gear, .int .i64 x.over, .int .i64 x.under]) A_xs kR wU wU (by assumption) wU wU ?_) | (with_reducible refine wpList_ldB F_int wU wU q12 wU ?_) | ((with_reducible refine wpList_pushL (y := ((p : Int) + 1)) 3 E_ints wU wU (hS6) wU cIntO ⟨rfl, rfl⟩ (by first | with_unfolding_all rfl | simp) wU (by first | omega | (simp; omega)) (by first | omega | (simp; omega)) ?_); intro v7 w7 hS7))
        obtain ⟨a7, c7, rfl, _⟩ := hS7.slice 3 rfl
        clear hwn hwn2 hw2
        go_roundg g2
        case measure => omega
        case rel =>
         refine ⟨i + 1, by omega, by go_num, by show (O ++ [(p : Int) + 1]).length = _; rw [List.length_append, HOl.out]; rfl, ?_⟩
         rw [HS1.out, HS3.out]
         exact hS7.tail
       ·have d1 : (x.over == x.going) = false := by simpa using ho
        have e1 : (if x.over = x.going then (p : Int) + 1 else -(p : Int) - 1) = -(p : Int) - 1 := if_neg ho
        have hst2 := HS2.out
        rw [e1] at hst2
        have HS3 := hid hst2
        clear ho e1 hst2
        go_wp2_with (first | (with_reducible refine wpList_ldS (n := 3) (us := #[.int .i64 x.gear, .int .i64 x.over, .int .i64 x.under]) A_xs kR wU wU (by assumption) wU wU ?_) | (with_reducible refine wpList_ldB F_int wU wU q12 wU ?_) | ((with_reducible refine wpList_pushL (y := (-(p : Int) - 1)) 3 E_ints wU wU (hS6) wU cIntO ⟨rfl, rfl⟩ (by first | with_unfolding_all rfl | simp) wU (by first | omega | (simp; omega)) (by first | omega | (simp; omega)) ?_); intro v7 w7 hS7))
        obtain ⟨a7, c7, rfl, _⟩ := hS7.slice 3 rfl
        clear hwn hwn2 hw2
        go_roundg g2
        case measure => omega
        case rel =>
         refine ⟨i + 1, by omega, by go_num, by show (O ++ [-(p : Int) - 1]).length = _; rw [List.length_append, HOl.out]; rfl, ?_⟩
         rw [HS1.out, HS3.out]
         exact hS7.tail
      ·refine wpOp_value (v := .int .i64 A0) (w' := U) (by rw [List.getElem?_toArray]; rfl) wU (by first | (go_simp; done) | (go_simp; rfl) | (simp [execOp, Act.eval, Result.andThen]; done)) ?_
       refine ⟨hSU.b, ?_⟩
       go_frame
       refine wpAnyC_on [9] kR (by simp) ?_
       simp only [List.forall_mem_cons, List.not_mem_nil, false_implies, implies_true, and_true]
       refine wpOp_value (v := .int .i64 A1) (w' := U) (by rw [List.getElem?_toArray]; rfl) wU (by first | (go_simp; done) | (go_simp; rfl) | (simp [execOp, Act.eval, Result.andThen]; done)) ?_
       refine ⟨hSU.b, ?_⟩
       go_frame
       refine wpAnyC_on [14] kR (by simp) ?_
       simp only [List.forall_mem_cons, List.not_mem_nil, false_implies, implies_true, and_true]
       refine wpOp_value (v := .pointer (some ⟨g, p, none⟩)) (w' := U) (by rw [List.getElem?_toArray]; rfl) wU (by first | (go_simp; done) | (go_simp; rfl) | (simp [execOp, Act.eval, Result.andThen]; done)) ?_
       refine ⟨hSU.b, ?_⟩
       go_frame
       refine wpAnyC_on [15] kR (by simp) ?_
       simp only [List.forall_mem_cons, List.not_mem_nil, false_implies, implies_true, and_true]
       refine wpOp_of_list (by rw [List.getElem?_toArray]; rfl) ?_
       refine wpList_stoI (v := A1) wU wU hcA hfA ?_
       refine ⟨hS5.b, ?_⟩
       go_frame
       refine wpAnyC_on [16] kR (by simp) ?_
       simp only [List.forall_mem_cons, List.not_mem_nil, false_implies, implies_true, and_true]
       refine wpOp_value (v := .pointer (some ⟨g, p + 1, none⟩)) (w' := (U.setCell ⟨g, p, none⟩ (.int .i64 A1))) (by rw [List.getElem?_toArray]; rfl) wU (by first | (go_simp; done) | (go_simp; rfl) | (simp [execOp, Act.eval, Result.andThen]; done)) ?_
       refine ⟨hS5.b, ?_⟩
       go_frame
       refine wpAnyC_on [17] kR (by simp) ?_
       simp only [List.forall_mem_cons, List.not_mem_nil, false_implies, implies_true, and_true]
       refine wpOp_of_list (by rw [List.getElem?_toArray]; rfl) ?_
       refine wpList_stoI (v := A0) wU wU hcB hfB ?_
       refine ⟨hS6.b, ?_⟩
       go_frame
       refine wpAnyC_rest [] [] rfl rfl kR kR kR hS6.b ?_
       unfold wpPure
       refine of_wpList_nil (P := Tryz.prog) (ops := #[]) ?_
       obtain ⟨U2, hU2⟩ : ∃ U2, U2 = (U.setCell ⟨g, p, none⟩ (.int .i64 A1)).setCell ⟨g, p + 1, none⟩ (.int .i64 A0) := ⟨_, rfl⟩
       rw [← hU2] at hS6 ⊢
       clear hU2 hS5 hcA hcB hcC hfA hfB hfC hkA hkB hkC hkD hkE hkF hw1
       have q12 := (hS6.blk 0 rfl).1
       have hwn := wrapN1 p hp9
       have hwn2 := wrapN2 p hp9
       by_cases ho : x.over = x.going
       ·have d1 : (x.over == x.going) = true := by simpa using ho
        have e1 : (if x.over = x.going then (p : Int) + 1 else -(p : Int) - 1) = (p : Int) + 1 := if_pos ho
        have hst2 := HS2.out
        rw [e1] at hst2
        have HS3 := hid hst2
        clear ho e1 hst2
        go_wp2_with (first | (with_reducible refine wpList_ldS (n := 3) (us := #[.int .i64 x.gear, .int .i64 x.over, .int .i64 x.under]) A_xs kR wU wU (by assumption) wU wU ?_) | (with_reducible refine wpList_ldB F_int wU wU q12 wU ?_) | ((with_reducible refine wpList_pushL (y := ((p : Int) + 1)) 3 E_ints wU wU (hS6) wU cIntO ⟨rfl, rfl⟩ (by first | with_unfolding_all rfl | simp) wU (by first | omega | (simp; omega)) (by first | omega | (simp; omega)) ?_); intro v7 w7 hS7))
        obtain ⟨a7, c7, rfl, _⟩ := hS7.slice 3 rfl
        clear hwn hwn2 hw2
        go_roundg g2
        case measure => omega
        case rel =>
         refine ⟨i + 1, by omega, by go_num, by show (O ++ [(p : Int) + 1]).length = _; rw [List.length_append, HOl.out]; rfl, ?_⟩
         rw [HS1.out, HS3.out]
         exact hS7.tail
       ·have d1 : (x.over == x.going) = false := by simpa using ho
        have e1 : (if x.over = x.going then (p : Int) + 1 else -(p : Int) - 1) = -(p : Int) - 1 := if_neg ho
        have hst2 := HS2.out
        rw [e1] at hst2
        have HS3 := hid hst2
        clear ho e1 hst2
        go_wp2_with (first | (with_reducible refine wpList_ldS (n := 3) (us := #[.int .i64 x.gear, .int .i64 x.over, .int .i64 x.under]) A_xs kR wU wU (by assumption) wU wU ?_) | (with_reducible refine wpList_ldB F_int wU wU q12 wU ?_) | ((with_reducible refine wpList_pushL (y := (-(p : Int) - 1)) 3 E_ints wU wU (hS6) wU cIntO ⟨rfl, rfl⟩ (by first | with_unfolding_all rfl | simp) wU (by first | omega | (simp; omega)) (by first | omega | (simp; omega)) ?_); intro v7 w7 hS7))
        obtain ⟨a7, c7, rfl, _⟩ := hS7.slice 3 rfl
        clear hwn hwn2 hw2
        go_roundg g2
        case measure => omega
        case rel =>
         refine ⟨i + 1, by omega, by go_num, by show (O ++ [-(p : Int) - 1]).length = _; rw [List.length_append, HOl.out]; rfl, ?_⟩
         rw [HS1.out, HS3.out]
         exact hS7.tail
 ·obtain ⟨E, hE⟩ : ∃ E, E = weaveE m l n := ⟨_, rfl⟩
  have hv : wrdE m l n = E := by unfold wrdE; rw [if_pos he, hE]
  rw [← hE] at CW he
  have hne : (E != 0) = true := by simpa using he
  rw [hv, if_neg he]
  have HC := hid CW
  clear hv hE CW HK
  go_enter Tryz.func7, Tryz.ntmps7
  go_wp2
  go_step3
  go_wp2_with (with_reducible refine wpList_ldS (n := 4) (us := mC m ad cap) A_mach kR wU wU (by assumption) wU wU ?_)
  refine HC.out.mono ?_
  rintro e w1 ⟨rfl, b1⟩
  have hS1 := hS.mono b1
  go_wp2_with fail
  try rw [Exit.noGoto_ret]
  go_ret2
  exact ⟨_, rfl, own_nil cIntS, hS1.b⟩
end Go.Proofs.YtdeoogbiipodmaaGreat

namespace Go.Proofs.YtdeoogbiipodmaaGreat
set_option maxRecDepth 100000
/-- no two ever meet. -/
def AllA (m : MacV) (l : List Int) : Prop := ∀ x ∈ l, ∀ y ∈ l, x ≠ y → meetM m x y = none
structure GoodL (m : MacV) (l : List Int) (s : Int) : Prop where
 all : AllA m l
 asc : l.Pairwise (· < ·)
 rng : ∀ x ∈ l, 0 ≤ x ∧ x < s
theorem GoodL.mono {m : MacV} {l : List Int} {s t : Int} (h : GoodL m l s) (hst : s ≤ t) : GoodL m l t := ⟨h.all, h.asc, fun x hx => by have := h.rng x hx; omega⟩
end Go.Proofs.YtdeoogbiipodmaaGreat

namespace Go.Proofs.YtdeoogbiipodmaaGreat
open Go.RowKit
set_option maxHeartbeats 1000000
set_option maxRecDepth 100000

theorem reps_of_own {α : Type} {c : α → Value} {sz B : Nat} {e : TypeId} {w : World} {a : Option Addr} {n cap : Nat} {l : List α} (h : Own c sz B e w (.slice a n cap) l) (hn : n = l.length) : Reps c sz w a cap l := by
 subst hn
 obtain ⟨a', cap', e1, hr, _⟩ := h.reps
 cases e1
 exact hr

end Go.Proofs.YtdeoogbiipodmaaGreat

namespace Go.Proofs.YtdeoogbiipodmaaGreat
open Go.RowKit
set_option maxHeartbeats 1000000
set_option maxRecDepth 100000

end Go.Proofs.YtdeoogbiipodmaaGreat

namespace Go.Proofs.YtdeoogbiipodmaaGreat
open Go.RowKit
set_option maxHeartbeats 1000000
set_option maxRecDepth 100000

end Go.Proofs.YtdeoogbiipodmaaGreat

namespace Go.Proofs.YtdeoogbiipodmaaGreat
open Go.RowKit
set_option maxHeartbeats 8000000
set_option maxRecDepth 100000
/-- a machine with a load is valid, with at most some gears and carriers. -/
def Fits (m : MacV) (l : List Int) (g c : Int) : Prop := (m.sw.length ≤ 19 ∧ l.length ≤ 67) ∧ m.gears ≤ g ∧ (l.length : Int) ≤ c ∧ loadE m l = 0
end Go.Proofs.YtdeoogbiipodmaaGreat

namespace Go.Proofs.YtdeoogbiipodmaaGreat
open Go.RowKit
set_option maxHeartbeats 1000000
set_option maxRecDepth 100000

/-- digits to the base 10^9 of a small number. -/
def wD (n : Nat) : List Int := if n = 0 then [] else [(n : Int)]
end Go.Proofs.YtdeoogbiipodmaaGreat

namespace Go.Proofs.YtdeoogbiipodmaaGreat
open Go.RowKit
set_option maxHeartbeats 2000000
set_option maxRecDepth 100000

end Go.Proofs.YtdeoogbiipodmaaGreat

namespace Go.Proofs.YtdeoogbiipodmaaGreat
open Go.RowKit
set_option maxHeartbeats 2000000
set_option maxRecDepth 100000

/-- an integer of the reference that is not negative, and small. -/
def NatR (w : World) (v : Value) (n : Nat) : Prop := ∃ a cap, v = .agg #[.bool false, .slice a (wD n).length cap] ∧ Ints w a cap (wD n)
theorem NatR.below {w w' : World} {v : Value} {n : Nat} (h : NatR w v n) (hb : Below w.heap.size w w') : NatR w' v n := by
 obtain ⟨a, cap, h1, h2⟩ := h; exact ⟨a, cap, h1, h2.below hb⟩

end Go.Proofs.YtdeoogbiipodmaaGreat

namespace Go.Proofs.YtdeoogbiipodmaaGreat
open Go.RowKit
set_option maxHeartbeats 2000000
set_option maxRecDepth 100000

end Go.Proofs.YtdeoogbiipodmaaGreat

namespace Go.Proofs.YtdeoogbiipodmaaGreat
open Go.RowKit
set_option maxRecDepth 100000

def isDig (b : UInt8) : Prop := 48 ≤ b.toNat ∧ b.toNat ≤ 57
instance (b : UInt8) : Decidable (isDig b) := inferInstanceAs (Decidable (_ ∧ _))
/-- a decimal number without zeros ahead. -/
def canon (l : List UInt8) : Prop := l ≠ [] ∧ (1 < l.length → l.head? ≠ some 48) ∧ ∀ b ∈ l, isDig b
instance (l : List UInt8) : Decidable (canon l) := inferInstanceAs (Decidable (_ ∧ _ ∧ _))
def both (a b : Option Nat) : Option (Int × Int) := match a, b with | some x, some y => some (x, y) | _, _ => none
end Go.Proofs.YtdeoogbiipodmaaGreat

namespace Go.Proofs.YtdeoogbiipodmaaGreat
open Go.RowKit
set_option maxHeartbeats 4000000
set_option maxRecDepth 100000

/-- a text's answer: the moves, the number of a word, the error. -/
def RetT (W : World) (R : List (Int × Int) × Int × Int) (r : Ending) (w' : World) : Prop :=
 ∃ a cap, r = .returned (.tuple #[.slice a R.1.length cap, .int .i64 R.2.1, .int .i64 R.2.2]) ∧ Pairs w' a cap R.1 ∧ Below W.heap.size W w'
theorem RetT.none {W w' : World} {R : List (Int × Int) × Int × Int} {r : Ending} {k e : Int} (hR : R = ([], k, e)) (h1 : r = .returned (.tuple #[.slice none 0 0, .int .i64 k, .int .i64 e])) (hb : Below W.heap.size W w') : RetT W R r w' := by
 subst hR; exact ⟨.none, 0, h1, pairs_nil _, hb⟩
end Go.Proofs.YtdeoogbiipodmaaGreat

namespace Go.Proofs.YtdeoogbiipodmaaGreat
open Go.RowKit
set_option maxHeartbeats 4000000
set_option maxRecDepth 100000

end Go.Proofs.YtdeoogbiipodmaaGreat

namespace Go.Proofs.YtdeoogbiipodmaaGreat
open Go.RowKit
set_option maxHeartbeats 4000000
set_option maxRecDepth 100000

section
variable {P : Program} {ops : Array Oper} {rest : List Oper} {a : Act} {Qa : Act → Prop} {α : Type} {c : α → Value} {sz bytes : Nat} {t e t2 e2 : TypeId} {z : Value} {ad : Option Addr} {cap : Nat} {l : List α} {k : Int} {w : World}
 {d1 d2 d3 : Tmp} {ty1 ty2 ty3 : TypeId} {p1 p2 p3 : String} {s x : Operand} {af1 af2 af3 : Array Edge} {j : Nat}
end

end Go.Proofs.YtdeoogbiipodmaaGreat

namespace Go.Proofs.YtdeoogbiipodmaaGreat
open Go.RowKit
set_option maxRecDepth 100000

section
open Go.ChangeMaps
variable {H : Type} {enc : TypeId × Value → H} {W : World}
end
end Go.Proofs.YtdeoogbiipodmaaGreat

namespace Go.Proofs.YtdeoogbiipodmaaGreat
open Go.RowKit
set_option maxHeartbeats 8000000
set_option maxRecDepth 100000

/-- a machine and an error came back. -/
def RetMac (W : World) (m : MacV) (e : Int) (r : Ending) (w' : World) : Prop := ∃ a c, r = .returned (.tuple #[mV m a c, .int .i64 e]) ∧ SL W.heap.size W w' [pOwn cInt 1 3 (.slice a m.sw.length c) m.sw]
section
variable {ops : Array Oper} {rest : List Oper} {a : Act} {Q : Exit → Act → World → Prop} {w0 w : World} {L : List Pc} {B : Nat} {ty : TypeId} {p : String} {af : Array Edge}
end
end Go.Proofs.YtdeoogbiipodmaaGreat

namespace Go.Proofs.YtdeoogbiipodmaaGreat
open Go.RowKit
set_option maxHeartbeats 8000000
set_option maxRecDepth 100000

theorem cm_a00 (m : MacV) (ad : Option Addr) (cap : Nat) (w : World) (hR : Ints w ad cap m.sw) (hI : -9223372036854775808 ≤ m.gears ∧ m.gears ≤ 9223372036854775807) (hr : m.ring = false) (q : Int) (hq : m.gears.tmod 2 = q) (hd1 : decide (m.gears < 1) = true) (ht : (m.turn != 1) = false) (HV : Hid (macE m = 3)) :
  Calls Tryz.prog 84 #[mV m ad cap] w fun r w' => r = .returned (.int .i64 (macE m)) ∧ Below w.heap.size w w' := by
 have hcap := hR.le
 have hmx := hR.max
 unfold mV
 rw [hr]
 clear hr
 go_enter Tryz.func84, Tryz.ntmps84
 go_wp2_with fail
 have hS := (SL.nil w).box (.cells #[.bool false, .int .i64 m.gears, .int .i64 m.turn, .slice ad m.sw.length cap] 24)
 have q1 := (hS.blk 0 rfl).1
 refine wp_region_qt 34 kR kR ?_
 simp only [List.take_succ_cons, List.take_zero, List.drop_succ_cons, List.drop_zero]
 repeat (first | ((with_reducible refine wpB_load F_boolM wU wU q1 wU ?_); (try simp only [Act.put, pA, pB, pC])) | ((with_reducible refine wpB_load F_sliceM wU wU q1 wU ?_); (try simp only [Act.put, pA, pB, pC])) | ((with_reducible refine wpB_when wU wU wU ?_); (try simp only [Act.put, pA, pB, pC])) | ((with_reducible refine wpQ_skip wU ?_); (try simp only [Act.put, pA, pB, pC])) |  ((with_reducible refine wpB_load (by first | exact F_int | fail) wU wU (by assumption) wU ?_); (try simp only [Act.put, pA, pB, pC])) | ((with_reducible refine wpB_loadS (n := 2) (us := #[_, _]) (by fail) kR wU wU (by assumption) wU wU ?_); (try simp only [Act.put, pA, pB, pC])) | ((with_reducible refine wpB_loadS (n := 4) (us := #[_, _, _, _]) (by fail) kR wU wU (by assumption) wU wU ?_); (try simp only [Act.put, pA, pB, pC])) | ((refine wpQ_oneG ?_ wU (fun w' => ?_) ?_); rotate_left; (go_simp; rfl); (try simp only [Act.put, pA, pB, pC])))
 refine wpQuiet_nil ?_
 intro w1 hb1
 have hS1 := hS.mono hb1
 go_wp2_with (go_at_call 51; refine (mfirst_any _ _ [_, _, _, _] _ (reps_newN cIntS [_, _, _, _] 4 rfl (by decide) _ _ (by simp) rfl)).mono ?_; rw [firstE_head (by decide)]; rintro e w' ⟨rfl, rfl⟩)
 all_goals go_ret
 all_goals exact ⟨by rw [HV.out]; rfl, bal hS1.b _⟩
theorem cm_b00 (m : MacV) (ad : Option Addr) (cap : Nat) (w : World) (hR : Ints w ad cap m.sw) (hI : -9223372036854775808 ≤ m.gears ∧ m.gears ≤ 9223372036854775807) (hr : m.ring = false) (q : Int) (hq : m.gears.tmod 2 = q) (n1 : decide (m.gears < 1) = false) (hd2 : decide (16 < m.gears) = true) (ht : (m.turn != 1) = false) (HV : Hid (macE m = 3)) :
  Calls Tryz.prog 84 #[mV m ad cap] w fun r w' => r = .returned (.int .i64 (macE m)) ∧ Below w.heap.size w w' := by
 have hcap := hR.le
 have hmx := hR.max
 unfold mV
 rw [hr]
 clear hr
 go_enter Tryz.func84, Tryz.ntmps84
 go_wp2_with fail
 have hS := (SL.nil w).box (.cells #[.bool false, .int .i64 m.gears, .int .i64 m.turn, .slice ad m.sw.length cap] 24)
 have q1 := (hS.blk 0 rfl).1
 refine wp_region_qt 34 kR kR ?_
 simp only [List.take_succ_cons, List.take_zero, List.drop_succ_cons, List.drop_zero]
 repeat (first | ((with_reducible refine wpB_load F_boolM wU wU q1 wU ?_); (try simp only [Act.put, pA, pB, pC])) | ((with_reducible refine wpB_load F_sliceM wU wU q1 wU ?_); (try simp only [Act.put, pA, pB, pC])) | ((with_reducible refine wpB_when wU wU wU ?_); (try simp only [Act.put, pA, pB, pC])) | ((with_reducible refine wpQ_skip wU ?_); (try simp only [Act.put, pA, pB, pC])) |  ((with_reducible refine wpB_load (by first | exact F_int | fail) wU wU (by assumption) wU ?_); (try simp only [Act.put, pA, pB, pC])) | ((with_reducible refine wpB_loadS (n := 2) (us := #[_, _]) (by fail) kR wU wU (by assumption) wU wU ?_); (try simp only [Act.put, pA, pB, pC])) | ((with_reducible refine wpB_loadS (n := 4) (us := #[_, _, _, _]) (by fail) kR wU wU (by assumption) wU wU ?_); (try simp only [Act.put, pA, pB, pC])) | ((refine wpQ_oneG ?_ wU (fun w' => ?_) ?_); rotate_left; (go_simp; rfl); (try simp only [Act.put, pA, pB, pC])))
 refine wpQuiet_nil ?_
 intro w1 hb1
 have hS1 := hS.mono hb1
 go_wp2_with (go_at_call 51; refine (mfirst_any _ _ [_, _, _, _] _ (reps_newN cIntS [_, _, _, _] 4 rfl (by decide) _ _ (by simp) rfl)).mono ?_; rw [firstE_head (by decide)]; rintro e w' ⟨rfl, rfl⟩)
 all_goals go_ret
 all_goals exact ⟨by rw [HV.out]; rfl, bal hS1.b _⟩
theorem cm_a01 (m : MacV) (ad : Option Addr) (cap : Nat) (w : World) (hR : Ints w ad cap m.sw) (hI : -9223372036854775808 ≤ m.gears ∧ m.gears ≤ 9223372036854775807) (hr : m.ring = false) (q : Int) (hq : m.gears.tmod 2 = q) (hd1 : decide (m.gears < 1) = true) (ht : (m.turn != 1) = true) (HV : Hid (macE m = 3)) :
  Calls Tryz.prog 84 #[mV m ad cap] w fun r w' => r = .returned (.int .i64 (macE m)) ∧ Below w.heap.size w w' := by
 have hcap := hR.le
 have hmx := hR.max
 unfold mV
 rw [hr]
 clear hr
 go_enter Tryz.func84, Tryz.ntmps84
 go_wp2_with fail
 have hS := (SL.nil w).box (.cells #[.bool false, .int .i64 m.gears, .int .i64 m.turn, .slice ad m.sw.length cap] 24)
 have q1 := (hS.blk 0 rfl).1
 refine wp_region_qt 34 kR kR ?_
 simp only [List.take_succ_cons, List.take_zero, List.drop_succ_cons, List.drop_zero]
 repeat (first | ((with_reducible refine wpB_load F_boolM wU wU q1 wU ?_); (try simp only [Act.put, pA, pB, pC])) | ((with_reducible refine wpB_load F_sliceM wU wU q1 wU ?_); (try simp only [Act.put, pA, pB, pC])) | ((with_reducible refine wpB_when wU wU wU ?_); (try simp only [Act.put, pA, pB, pC])) | ((with_reducible refine wpQ_skip wU ?_); (try simp only [Act.put, pA, pB, pC])) |  ((with_reducible refine wpB_load (by first | exact F_int | fail) wU wU (by assumption) wU ?_); (try simp only [Act.put, pA, pB, pC])) | ((with_reducible refine wpB_loadS (n := 2) (us := #[_, _]) (by fail) kR wU wU (by assumption) wU wU ?_); (try simp only [Act.put, pA, pB, pC])) | ((with_reducible refine wpB_loadS (n := 4) (us := #[_, _, _, _]) (by fail) kR wU wU (by assumption) wU wU ?_); (try simp only [Act.put, pA, pB, pC])) | ((refine wpQ_oneG ?_ wU (fun w' => ?_) ?_); rotate_left; (go_simp; rfl); (try simp only [Act.put, pA, pB, pC])))
 refine wpQuiet_nil ?_
 intro w1 hb1
 have hS1 := hS.mono hb1
 go_wp2_with (go_at_call 51; refine (mfirst_any _ _ [_, _, _, _] _ (reps_newN cIntS [_, _, _, _] 4 rfl (by decide) _ _ (by simp) rfl)).mono ?_; rw [firstE_head (by decide)]; rintro e w' ⟨rfl, rfl⟩)
 all_goals go_ret
 all_goals exact ⟨by rw [HV.out]; rfl, bal hS1.b _⟩
theorem cm_b01 (m : MacV) (ad : Option Addr) (cap : Nat) (w : World) (hR : Ints w ad cap m.sw) (hI : -9223372036854775808 ≤ m.gears ∧ m.gears ≤ 9223372036854775807) (hr : m.ring = false) (q : Int) (hq : m.gears.tmod 2 = q) (n1 : decide (m.gears < 1) = false) (hd2 : decide (16 < m.gears) = true) (ht : (m.turn != 1) = true) (HV : Hid (macE m = 3)) :
  Calls Tryz.prog 84 #[mV m ad cap] w fun r w' => r = .returned (.int .i64 (macE m)) ∧ Below w.heap.size w w' := by
 have hcap := hR.le
 have hmx := hR.max
 unfold mV
 rw [hr]
 clear hr
 go_enter Tryz.func84, Tryz.ntmps84
 go_wp2_with fail
 have hS := (SL.nil w).box (.cells #[.bool false, .int .i64 m.gears, .int .i64 m.turn, .slice ad m.sw.length cap] 24)
 have q1 := (hS.blk 0 rfl).1
 refine wp_region_qt 34 kR kR ?_
 simp only [List.take_succ_cons, List.take_zero, List.drop_succ_cons, List.drop_zero]
 repeat (first | ((with_reducible refine wpB_load F_boolM wU wU q1 wU ?_); (try simp only [Act.put, pA, pB, pC])) | ((with_reducible refine wpB_load F_sliceM wU wU q1 wU ?_); (try simp only [Act.put, pA, pB, pC])) | ((with_reducible refine wpB_when wU wU wU ?_); (try simp only [Act.put, pA, pB, pC])) | ((with_reducible refine wpQ_skip wU ?_); (try simp only [Act.put, pA, pB, pC])) |  ((with_reducible refine wpB_load (by first | exact F_int | fail) wU wU (by assumption) wU ?_); (try simp only [Act.put, pA, pB, pC])) | ((with_reducible refine wpB_loadS (n := 2) (us := #[_, _]) (by fail) kR wU wU (by assumption) wU wU ?_); (try simp only [Act.put, pA, pB, pC])) | ((with_reducible refine wpB_loadS (n := 4) (us := #[_, _, _, _]) (by fail) kR wU wU (by assumption) wU wU ?_); (try simp only [Act.put, pA, pB, pC])) | ((refine wpQ_oneG ?_ wU (fun w' => ?_) ?_); rotate_left; (go_simp; rfl); (try simp only [Act.put, pA, pB, pC])))
 refine wpQuiet_nil ?_
 intro w1 hb1
 have hS1 := hS.mono hb1
 go_wp2_with (go_at_call 51; refine (mfirst_any _ _ [_, _, _, _] _ (reps_newN cIntS [_, _, _, _] 4 rfl (by decide) _ _ (by simp) rfl)).mono ?_; rw [firstE_head (by decide)]; rintro e w' ⟨rfl, rfl⟩)
 all_goals go_ret
 all_goals exact ⟨by rw [HV.out]; rfl, bal hS1.b _⟩
theorem cm_a10 (m : MacV) (ad : Option Addr) (cap : Nat) (w : World) (hR : Ints w ad cap m.sw) (hI : -9223372036854775808 ≤ m.gears ∧ m.gears ≤ 9223372036854775807) (hr : m.ring = true) (q : Int) (hq : m.gears.tmod 2 = q) (hd1 : decide (m.gears < 1) = true) (ht : (m.turn != 1) = false) (HV : Hid (macE m = 3)) :
  Calls Tryz.prog 84 #[mV m ad cap] w fun r w' => r = .returned (.int .i64 (macE m)) ∧ Below w.heap.size w w' := by
 have hcap := hR.le
 have hmx := hR.max
 unfold mV
 rw [hr]
 clear hr
 go_enter Tryz.func84, Tryz.ntmps84
 go_wp2_with fail
 have hS := (SL.nil w).box (.cells #[.bool true, .int .i64 m.gears, .int .i64 m.turn, .slice ad m.sw.length cap] 24)
 have q1 := (hS.blk 0 rfl).1
 refine wp_region_qt 34 kR kR ?_
 simp only [List.take_succ_cons, List.take_zero, List.drop_succ_cons, List.drop_zero]
 repeat (first | ((with_reducible refine wpB_load F_boolM wU wU q1 wU ?_); (try simp only [Act.put, pA, pB, pC])) | ((with_reducible refine wpB_load F_sliceM wU wU q1 wU ?_); (try simp only [Act.put, pA, pB, pC])) | ((with_reducible refine wpB_when wU wU wU ?_); (try simp only [Act.put, pA, pB, pC])) | ((with_reducible refine wpQ_skip wU ?_); (try simp only [Act.put, pA, pB, pC])) |  ((with_reducible refine wpB_load (by first | exact F_int | fail) wU wU (by assumption) wU ?_); (try simp only [Act.put, pA, pB, pC])) | ((with_reducible refine wpB_loadS (n := 2) (us := #[_, _]) (by fail) kR wU wU (by assumption) wU wU ?_); (try simp only [Act.put, pA, pB, pC])) | ((with_reducible refine wpB_loadS (n := 4) (us := #[_, _, _, _]) (by fail) kR wU wU (by assumption) wU wU ?_); (try simp only [Act.put, pA, pB, pC])) | ((refine wpQ_oneG ?_ wU (fun w' => ?_) ?_); rotate_left; (go_simp; rfl); (try simp only [Act.put, pA, pB, pC])))
 refine wpQuiet_nil ?_
 intro w1 hb1
 have hS1 := hS.mono hb1
 go_wp2_with (go_at_call 51; refine (mfirst_any _ _ [_, _, _, _] _ (reps_newN cIntS [_, _, _, _] 4 rfl (by decide) _ _ (by simp) rfl)).mono ?_; rw [firstE_head (by decide)]; rintro e w' ⟨rfl, rfl⟩)
 all_goals go_ret
 all_goals exact ⟨by rw [HV.out]; rfl, bal hS1.b _⟩
theorem cm_b10 (m : MacV) (ad : Option Addr) (cap : Nat) (w : World) (hR : Ints w ad cap m.sw) (hI : -9223372036854775808 ≤ m.gears ∧ m.gears ≤ 9223372036854775807) (hr : m.ring = true) (q : Int) (hq : m.gears.tmod 2 = q) (n1 : decide (m.gears < 1) = false) (hd2 : decide (16 < m.gears) = true) (ht : (m.turn != 1) = false) (HV : Hid (macE m = 3)) :
  Calls Tryz.prog 84 #[mV m ad cap] w fun r w' => r = .returned (.int .i64 (macE m)) ∧ Below w.heap.size w w' := by
 have hcap := hR.le
 have hmx := hR.max
 unfold mV
 rw [hr]
 clear hr
 go_enter Tryz.func84, Tryz.ntmps84
 go_wp2_with fail
 have hS := (SL.nil w).box (.cells #[.bool true, .int .i64 m.gears, .int .i64 m.turn, .slice ad m.sw.length cap] 24)
 have q1 := (hS.blk 0 rfl).1
 refine wp_region_qt 34 kR kR ?_
 simp only [List.take_succ_cons, List.take_zero, List.drop_succ_cons, List.drop_zero]
 repeat (first | ((with_reducible refine wpB_load F_boolM wU wU q1 wU ?_); (try simp only [Act.put, pA, pB, pC])) | ((with_reducible refine wpB_load F_sliceM wU wU q1 wU ?_); (try simp only [Act.put, pA, pB, pC])) | ((with_reducible refine wpB_when wU wU wU ?_); (try simp only [Act.put, pA, pB, pC])) | ((with_reducible refine wpQ_skip wU ?_); (try simp only [Act.put, pA, pB, pC])) |  ((with_reducible refine wpB_load (by first | exact F_int | fail) wU wU (by assumption) wU ?_); (try simp only [Act.put, pA, pB, pC])) | ((with_reducible refine wpB_loadS (n := 2) (us := #[_, _]) (by fail) kR wU wU (by assumption) wU wU ?_); (try simp only [Act.put, pA, pB, pC])) | ((with_reducible refine wpB_loadS (n := 4) (us := #[_, _, _, _]) (by fail) kR wU wU (by assumption) wU wU ?_); (try simp only [Act.put, pA, pB, pC])) | ((refine wpQ_oneG ?_ wU (fun w' => ?_) ?_); rotate_left; (go_simp; rfl); (try simp only [Act.put, pA, pB, pC])))
 refine wpQuiet_nil ?_
 intro w1 hb1
 have hS1 := hS.mono hb1
 go_wp2_with (go_at_call 51; refine (mfirst_any _ _ [_, _, _, _] _ (reps_newN cIntS [_, _, _, _] 4 rfl (by decide) _ _ (by simp) rfl)).mono ?_; rw [firstE_head (by decide)]; rintro e w' ⟨rfl, rfl⟩)
 all_goals go_ret
 all_goals exact ⟨by rw [HV.out]; rfl, bal hS1.b _⟩
theorem cm_a11 (m : MacV) (ad : Option Addr) (cap : Nat) (w : World) (hR : Ints w ad cap m.sw) (hI : -9223372036854775808 ≤ m.gears ∧ m.gears ≤ 9223372036854775807) (hr : m.ring = true) (q : Int) (hq : m.gears.tmod 2 = q) (hd1 : decide (m.gears < 1) = true) (ht : (m.turn != 1) = true) (HV : Hid (macE m = 3)) :
  Calls Tryz.prog 84 #[mV m ad cap] w fun r w' => r = .returned (.int .i64 (macE m)) ∧ Below w.heap.size w w' := by
 have hcap := hR.le
 have hmx := hR.max
 unfold mV
 rw [hr]
 clear hr
 go_enter Tryz.func84, Tryz.ntmps84
 go_wp2_with fail
 have hS := (SL.nil w).box (.cells #[.bool true, .int .i64 m.gears, .int .i64 m.turn, .slice ad m.sw.length cap] 24)
 have q1 := (hS.blk 0 rfl).1
 refine wp_region_qt 34 kR kR ?_
 simp only [List.take_succ_cons, List.take_zero, List.drop_succ_cons, List.drop_zero]
 repeat (first | ((with_reducible refine wpB_load F_boolM wU wU q1 wU ?_); (try simp only [Act.put, pA, pB, pC])) | ((with_reducible refine wpB_load F_sliceM wU wU q1 wU ?_); (try simp only [Act.put, pA, pB, pC])) | ((with_reducible refine wpB_when wU wU wU ?_); (try simp only [Act.put, pA, pB, pC])) | ((with_reducible refine wpQ_skip wU ?_); (try simp only [Act.put, pA, pB, pC])) |  ((with_reducible refine wpB_load (by first | exact F_int | fail) wU wU (by assumption) wU ?_); (try simp only [Act.put, pA, pB, pC])) | ((with_reducible refine wpB_loadS (n := 2) (us := #[_, _]) (by fail) kR wU wU (by assumption) wU wU ?_); (try simp only [Act.put, pA, pB, pC])) | ((with_reducible refine wpB_loadS (n := 4) (us := #[_, _, _, _]) (by fail) kR wU wU (by assumption) wU wU ?_); (try simp only [Act.put, pA, pB, pC])) | ((refine wpQ_oneG ?_ wU (fun w' => ?_) ?_); rotate_left; (go_simp; rfl); (try simp only [Act.put, pA, pB, pC])))
 refine wpQuiet_nil ?_
 intro w1 hb1
 have hS1 := hS.mono hb1
 go_wp2_with (go_at_call 51; refine (mfirst_any _ _ [_, _, _, _] _ (reps_newN cIntS [_, _, _, _] 4 rfl (by decide) _ _ (by simp) rfl)).mono ?_; rw [firstE_head (by decide)]; rintro e w' ⟨rfl, rfl⟩)
 all_goals go_ret
 all_goals exact ⟨by rw [HV.out]; rfl, bal hS1.b _⟩
theorem cm_b11 (m : MacV) (ad : Option Addr) (cap : Nat) (w : World) (hR : Ints w ad cap m.sw) (hI : -9223372036854775808 ≤ m.gears ∧ m.gears ≤ 9223372036854775807) (hr : m.ring = true) (q : Int) (hq : m.gears.tmod 2 = q) (n1 : decide (m.gears < 1) = false) (hd2 : decide (16 < m.gears) = true) (ht : (m.turn != 1) = true) (HV : Hid (macE m = 3)) :
  Calls Tryz.prog 84 #[mV m ad cap] w fun r w' => r = .returned (.int .i64 (macE m)) ∧ Below w.heap.size w w' := by
 have hcap := hR.le
 have hmx := hR.max
 unfold mV
 rw [hr]
 clear hr
 go_enter Tryz.func84, Tryz.ntmps84
 go_wp2_with fail
 have hS := (SL.nil w).box (.cells #[.bool true, .int .i64 m.gears, .int .i64 m.turn, .slice ad m.sw.length cap] 24)
 have q1 := (hS.blk 0 rfl).1
 refine wp_region_qt 34 kR kR ?_
 simp only [List.take_succ_cons, List.take_zero, List.drop_succ_cons, List.drop_zero]
 repeat (first | ((with_reducible refine wpB_load F_boolM wU wU q1 wU ?_); (try simp only [Act.put, pA, pB, pC])) | ((with_reducible refine wpB_load F_sliceM wU wU q1 wU ?_); (try simp only [Act.put, pA, pB, pC])) | ((with_reducible refine wpB_when wU wU wU ?_); (try simp only [Act.put, pA, pB, pC])) | ((with_reducible refine wpQ_skip wU ?_); (try simp only [Act.put, pA, pB, pC])) |  ((with_reducible refine wpB_load (by first | exact F_int | fail) wU wU (by assumption) wU ?_); (try simp only [Act.put, pA, pB, pC])) | ((with_reducible refine wpB_loadS (n := 2) (us := #[_, _]) (by fail) kR wU wU (by assumption) wU wU ?_); (try simp only [Act.put, pA, pB, pC])) | ((with_reducible refine wpB_loadS (n := 4) (us := #[_, _, _, _]) (by fail) kR wU wU (by assumption) wU wU ?_); (try simp only [Act.put, pA, pB, pC])) | ((refine wpQ_oneG ?_ wU (fun w' => ?_) ?_); rotate_left; (go_simp; rfl); (try simp only [Act.put, pA, pB, pC])))
 refine wpQuiet_nil ?_
 intro w1 hb1
 have hS1 := hS.mono hb1
 go_wp2_with (go_at_call 51; refine (mfirst_any _ _ [_, _, _, _] _ (reps_newN cIntS [_, _, _, _] 4 rfl (by decide) _ _ (by simp) rfl)).mono ?_; rw [firstE_head (by decide)]; rintro e w' ⟨rfl, rfl⟩)
 all_goals go_ret
 all_goals exact ⟨by rw [HV.out]; rfl, bal hS1.b _⟩
theorem cm_c0 (m : MacV) (ad : Option Addr) (cap : Nat) (w : World) (hR : Ints w ad cap m.sw) (hI : -9223372036854775808 ≤ m.gears ∧ m.gears ≤ 9223372036854775807) (hr : m.ring = true) (q : Int) (hq : m.gears.tmod 2 = q) (r1 : 1 ≤ m.gears) (r2 : m.gears ≤ 16) (n1 : decide (m.gears < 1) = false) (n2 : decide (16 < m.gears) = false) (hq1 : (q == 1) = true) (ht : (m.turn != 1) = false) (HV : Hid (macE m = 17)) :
  Calls Tryz.prog 84 #[mV m ad cap] w fun r w' => r = .returned (.int .i64 (macE m)) ∧ Below w.heap.size w w' := by
 have hcap := hR.le
 have hmx := hR.max
 unfold mV
 rw [hr]
 clear hr
 go_enter Tryz.func84, Tryz.ntmps84
 go_wp2_with fail
 have hS := (SL.nil w).box (.cells #[.bool true, .int .i64 m.gears, .int .i64 m.turn, .slice ad m.sw.length cap] 24)
 have q1 := (hS.blk 0 rfl).1
 refine wp_region_qt 34 kR kR ?_
 simp only [List.take_succ_cons, List.take_zero, List.drop_succ_cons, List.drop_zero]
 repeat (first | ((with_reducible refine wpB_load F_boolM wU wU q1 wU ?_); (try simp only [Act.put, pA, pB, pC])) | ((with_reducible refine wpB_load F_sliceM wU wU q1 wU ?_); (try simp only [Act.put, pA, pB, pC])) | ((with_reducible refine wpB_when wU wU wU ?_); (try simp only [Act.put, pA, pB, pC])) | ((with_reducible refine wpQ_skip wU ?_); (try simp only [Act.put, pA, pB, pC])) |  ((with_reducible refine wpB_load (by first | exact F_int | fail) wU wU (by assumption) wU ?_); (try simp only [Act.put, pA, pB, pC])) | ((with_reducible refine wpB_loadS (n := 2) (us := #[_, _]) (by fail) kR wU wU (by assumption) wU wU ?_); (try simp only [Act.put, pA, pB, pC])) | ((with_reducible refine wpB_loadS (n := 4) (us := #[_, _, _, _]) (by fail) kR wU wU (by assumption) wU wU ?_); (try simp only [Act.put, pA, pB, pC])) | ((refine wpQ_oneG ?_ wU (fun w' => ?_) ?_); rotate_left; (go_simp; rfl); (try simp only [Act.put, pA, pB, pC])))
 refine wpQuiet_nil ?_
 intro w1 hb1
 have hS1 := hS.mono hb1
 go_wp2_with (go_at_call 51; refine (mfirst_any _ _ [_, _, _, _] _ (reps_newN cIntS [_, _, _, _] 4 rfl (by decide) _ _ (by simp) rfl)).mono ?_; rw [firstE_z, firstE_head (by decide)]; rintro e w' ⟨rfl, rfl⟩)
 all_goals go_ret
 all_goals exact ⟨by rw [HV.out]; rfl, bal hS1.b _⟩
theorem cm_c1 (m : MacV) (ad : Option Addr) (cap : Nat) (w : World) (hR : Ints w ad cap m.sw) (hI : -9223372036854775808 ≤ m.gears ∧ m.gears ≤ 9223372036854775807) (hr : m.ring = true) (q : Int) (hq : m.gears.tmod 2 = q) (r1 : 1 ≤ m.gears) (r2 : m.gears ≤ 16) (n1 : decide (m.gears < 1) = false) (n2 : decide (16 < m.gears) = false) (hq1 : (q == 1) = true) (ht : (m.turn != 1) = true) (HV : Hid (macE m = 17)) :
  Calls Tryz.prog 84 #[mV m ad cap] w fun r w' => r = .returned (.int .i64 (macE m)) ∧ Below w.heap.size w w' := by
 have hcap := hR.le
 have hmx := hR.max
 unfold mV
 rw [hr]
 clear hr
 go_enter Tryz.func84, Tryz.ntmps84
 go_wp2_with fail
 have hS := (SL.nil w).box (.cells #[.bool true, .int .i64 m.gears, .int .i64 m.turn, .slice ad m.sw.length cap] 24)
 have q1 := (hS.blk 0 rfl).1
 refine wp_region_qt 34 kR kR ?_
 simp only [List.take_succ_cons, List.take_zero, List.drop_succ_cons, List.drop_zero]
 repeat (first | ((with_reducible refine wpB_load F_boolM wU wU q1 wU ?_); (try simp only [Act.put, pA, pB, pC])) | ((with_reducible refine wpB_load F_sliceM wU wU q1 wU ?_); (try simp only [Act.put, pA, pB, pC])) | ((with_reducible refine wpB_when wU wU wU ?_); (try simp only [Act.put, pA, pB, pC])) | ((with_reducible refine wpQ_skip wU ?_); (try simp only [Act.put, pA, pB, pC])) |  ((with_reducible refine wpB_load (by first | exact F_int | fail) wU wU (by assumption) wU ?_); (try simp only [Act.put, pA, pB, pC])) | ((with_reducible refine wpB_loadS (n := 2) (us := #[_, _]) (by fail) kR wU wU (by assumption) wU wU ?_); (try simp only [Act.put, pA, pB, pC])) | ((with_reducible refine wpB_loadS (n := 4) (us := #[_, _, _, _]) (by fail) kR wU wU (by assumption) wU wU ?_); (try simp only [Act.put, pA, pB, pC])) | ((refine wpQ_oneG ?_ wU (fun w' => ?_) ?_); rotate_left; (go_simp; rfl); (try simp only [Act.put, pA, pB, pC])))
 refine wpQuiet_nil ?_
 intro w1 hb1
 have hS1 := hS.mono hb1
 go_wp2_with (go_at_call 51; refine (mfirst_any _ _ [_, _, _, _] _ (reps_newN cIntS [_, _, _, _] 4 rfl (by decide) _ _ (by simp) rfl)).mono ?_; rw [firstE_z, firstE_head (by decide)]; rintro e w' ⟨rfl, rfl⟩)
 all_goals go_ret
 all_goals exact ⟨by rw [HV.out]; rfl, bal hS1.b _⟩
theorem cm_d0 (m : MacV) (ad : Option Addr) (cap : Nat) (w : World) (hR : Ints w ad cap m.sw) (hI : -9223372036854775808 ≤ m.gears ∧ m.gears ≤ 9223372036854775807) (hr : m.ring = false) (q : Int) (hq : m.gears.tmod 2 = q) (r1 : 1 ≤ m.gears) (r2 : m.gears ≤ 16) (n1 : decide (m.gears < 1) = false) (n2 : decide (16 < m.gears) = false)  (ht : (m.turn != 1) = true) (htn : (m.turn != -1) = true) (HV : Hid (macE m = 3)) :
  Calls Tryz.prog 84 #[mV m ad cap] w fun r w' => r = .returned (.int .i64 (macE m)) ∧ Below w.heap.size w w' := by
 have hcap := hR.le
 have hmx := hR.max
 unfold mV
 rw [hr]
 clear hr
 go_enter Tryz.func84, Tryz.ntmps84
 go_wp2_with fail
 have hS := (SL.nil w).box (.cells #[.bool false, .int .i64 m.gears, .int .i64 m.turn, .slice ad m.sw.length cap] 24)
 have q1 := (hS.blk 0 rfl).1
 refine wp_region_qt 34 kR kR ?_
 simp only [List.take_succ_cons, List.take_zero, List.drop_succ_cons, List.drop_zero]
 repeat (first | ((with_reducible refine wpB_load F_boolM wU wU q1 wU ?_); (try simp only [Act.put, pA, pB, pC])) | ((with_reducible refine wpB_load F_sliceM wU wU q1 wU ?_); (try simp only [Act.put, pA, pB, pC])) | ((with_reducible refine wpB_when wU wU wU ?_); (try simp only [Act.put, pA, pB, pC])) | ((with_reducible refine wpQ_skip wU ?_); (try simp only [Act.put, pA, pB, pC])) |  ((with_reducible refine wpB_load (by first | exact F_int | fail) wU wU (by assumption) wU ?_); (try simp only [Act.put, pA, pB, pC])) | ((with_reducible refine wpB_loadS (n := 2) (us := #[_, _]) (by fail) kR wU wU (by assumption) wU wU ?_); (try simp only [Act.put, pA, pB, pC])) | ((with_reducible refine wpB_loadS (n := 4) (us := #[_, _, _, _]) (by fail) kR wU wU (by assumption) wU wU ?_); (try simp only [Act.put, pA, pB, pC])) | ((refine wpQ_oneG ?_ wU (fun w' => ?_) ?_); rotate_left; (go_simp; rfl); (try simp only [Act.put, pA, pB, pC])))
 refine wpQuiet_nil ?_
 intro w1 hb1
 have hS1 := hS.mono hb1
 go_wp2_with (go_at_call 51; refine (mfirst_any _ _ [_, _, _, _] _ (reps_newN cIntS [_, _, _, _] 4 rfl (by decide) _ _ (by simp) rfl)).mono ?_; rw [firstE_z, firstE_z, firstE_head (by decide)]; rintro e w' ⟨rfl, rfl⟩)
 all_goals go_ret
 all_goals exact ⟨by rw [HV.out]; rfl, bal hS1.b _⟩
theorem cm_d1 (m : MacV) (ad : Option Addr) (cap : Nat) (w : World) (hR : Ints w ad cap m.sw) (hI : -9223372036854775808 ≤ m.gears ∧ m.gears ≤ 9223372036854775807) (hr : m.ring = true) (q : Int) (hq : m.gears.tmod 2 = q) (r1 : 1 ≤ m.gears) (r2 : m.gears ≤ 16) (n1 : decide (m.gears < 1) = false) (n2 : decide (16 < m.gears) = false) (hqb : (q == 1) = false) (ht : (m.turn != 1) = true) (htn : (m.turn != -1) = true) (HV : Hid (macE m = 3)) :
  Calls Tryz.prog 84 #[mV m ad cap] w fun r w' => r = .returned (.int .i64 (macE m)) ∧ Below w.heap.size w w' := by
 have hcap := hR.le
 have hmx := hR.max
 unfold mV
 rw [hr]
 clear hr
 go_enter Tryz.func84, Tryz.ntmps84
 go_wp2_with fail
 have hS := (SL.nil w).box (.cells #[.bool true, .int .i64 m.gears, .int .i64 m.turn, .slice ad m.sw.length cap] 24)
 have q1 := (hS.blk 0 rfl).1
 refine wp_region_qt 34 kR kR ?_
 simp only [List.take_succ_cons, List.take_zero, List.drop_succ_cons, List.drop_zero]
 repeat (first | ((with_reducible refine wpB_load F_boolM wU wU q1 wU ?_); (try simp only [Act.put, pA, pB, pC])) | ((with_reducible refine wpB_load F_sliceM wU wU q1 wU ?_); (try simp only [Act.put, pA, pB, pC])) | ((with_reducible refine wpB_when wU wU wU ?_); (try simp only [Act.put, pA, pB, pC])) | ((with_reducible refine wpQ_skip wU ?_); (try simp only [Act.put, pA, pB, pC])) |  ((with_reducible refine wpB_load (by first | exact F_int | fail) wU wU (by assumption) wU ?_); (try simp only [Act.put, pA, pB, pC])) | ((with_reducible refine wpB_loadS (n := 2) (us := #[_, _]) (by fail) kR wU wU (by assumption) wU wU ?_); (try simp only [Act.put, pA, pB, pC])) | ((with_reducible refine wpB_loadS (n := 4) (us := #[_, _, _, _]) (by fail) kR wU wU (by assumption) wU wU ?_); (try simp only [Act.put, pA, pB, pC])) | ((refine wpQ_oneG ?_ wU (fun w' => ?_) ?_); rotate_left; (go_simp; rfl); (try simp only [Act.put, pA, pB, pC])))
 refine wpQuiet_nil ?_
 intro w1 hb1
 have hS1 := hS.mono hb1
 go_wp2_with (go_at_call 51; refine (mfirst_any _ _ [_, _, _, _] _ (reps_newN cIntS [_, _, _, _] 4 rfl (by decide) _ _ (by simp) rfl)).mono ?_; rw [firstE_z, firstE_z, firstE_head (by decide)]; rintro e w' ⟨rfl, rfl⟩)
 all_goals go_ret
 all_goals exact ⟨by rw [HV.out]; rfl, bal hS1.b _⟩
theorem cm_e00 (m : MacV) (ad : Option Addr) (cap : Nat) (w : World) (hR : Ints w ad cap m.sw) (hI : -9223372036854775808 ≤ m.gears ∧ m.gears ≤ 9223372036854775807) (hr : m.ring = false) (q : Int) (hq : m.gears.tmod 2 = q) (r1 : 1 ≤ m.gears) (r2 : m.gears ≤ 16) (n1 : decide (m.gears < 1) = false) (n2 : decide (16 < m.gears) = false)  (ht : (m.turn != 1) = false)  (hd5 : decide (m.gears < m.sw.length) = true) (HV : Hid (macE m = 5)) :
  Calls Tryz.prog 84 #[mV m ad cap] w fun r w' => r = .returned (.int .i64 (macE m)) ∧ Below w.heap.size w w' := by
 have hcap := hR.le
 have hmx := hR.max
 unfold mV
 rw [hr]
 clear hr
 go_enter Tryz.func84, Tryz.ntmps84
 go_wp2_with fail
 have hS := (SL.nil w).box (.cells #[.bool false, .int .i64 m.gears, .int .i64 m.turn, .slice ad m.sw.length cap] 24)
 have q1 := (hS.blk 0 rfl).1
 refine wp_region_qt 34 kR kR ?_
 simp only [List.take_succ_cons, List.take_zero, List.drop_succ_cons, List.drop_zero]
 repeat (first | ((with_reducible refine wpB_load F_boolM wU wU q1 wU ?_); (try simp only [Act.put, pA, pB, pC])) | ((with_reducible refine wpB_load F_sliceM wU wU q1 wU ?_); (try simp only [Act.put, pA, pB, pC])) | ((with_reducible refine wpB_when wU wU wU ?_); (try simp only [Act.put, pA, pB, pC])) | ((with_reducible refine wpQ_skip wU ?_); (try simp only [Act.put, pA, pB, pC])) |  ((with_reducible refine wpB_load (by first | exact F_int | fail) wU wU (by assumption) wU ?_); (try simp only [Act.put, pA, pB, pC])) | ((with_reducible refine wpB_loadS (n := 2) (us := #[_, _]) (by fail) kR wU wU (by assumption) wU wU ?_); (try simp only [Act.put, pA, pB, pC])) | ((with_reducible refine wpB_loadS (n := 4) (us := #[_, _, _, _]) (by fail) kR wU wU (by assumption) wU wU ?_); (try simp only [Act.put, pA, pB, pC])) | ((refine wpQ_oneG ?_ wU (fun w' => ?_) ?_); rotate_left; (go_simp; rfl); (try simp only [Act.put, pA, pB, pC])))
 refine wpQuiet_nil ?_
 intro w1 hb1
 have hS1 := hS.mono hb1
 go_wp2_with (go_at_call 51; refine (mfirst_any _ _ [_, _, _, _] _ (reps_newN cIntS [_, _, _, _] 4 rfl (by decide) _ _ (by simp) rfl)).mono ?_; rw [firstE_z, firstE_z, firstE_z, firstE_head (by decide)]; rintro e w' ⟨rfl, rfl⟩)
 all_goals go_ret
 all_goals exact ⟨by rw [HV.out]; rfl, bal hS1.b _⟩
theorem cm_e01 (m : MacV) (ad : Option Addr) (cap : Nat) (w : World) (hR : Ints w ad cap m.sw) (hI : -9223372036854775808 ≤ m.gears ∧ m.gears ≤ 9223372036854775807) (hr : m.ring = false) (q : Int) (hq : m.gears.tmod 2 = q) (r1 : 1 ≤ m.gears) (r2 : m.gears ≤ 16) (n1 : decide (m.gears < 1) = false) (n2 : decide (16 < m.gears) = false)  (ht : (m.turn != 1) = true) (htn : (m.turn != -1) = false) (hd5 : decide (m.gears < m.sw.length) = true) (HV : Hid (macE m = 5)) :
  Calls Tryz.prog 84 #[mV m ad cap] w fun r w' => r = .returned (.int .i64 (macE m)) ∧ Below w.heap.size w w' := by
 have hcap := hR.le
 have hmx := hR.max
 unfold mV
 rw [hr]
 clear hr
 go_enter Tryz.func84, Tryz.ntmps84
 go_wp2_with fail
 have hS := (SL.nil w).box (.cells #[.bool false, .int .i64 m.gears, .int .i64 m.turn, .slice ad m.sw.length cap] 24)
 have q1 := (hS.blk 0 rfl).1
 refine wp_region_qt 34 kR kR ?_
 simp only [List.take_succ_cons, List.take_zero, List.drop_succ_cons, List.drop_zero]
 repeat (first | ((with_reducible refine wpB_load F_boolM wU wU q1 wU ?_); (try simp only [Act.put, pA, pB, pC])) | ((with_reducible refine wpB_load F_sliceM wU wU q1 wU ?_); (try simp only [Act.put, pA, pB, pC])) | ((with_reducible refine wpB_when wU wU wU ?_); (try simp only [Act.put, pA, pB, pC])) | ((with_reducible refine wpQ_skip wU ?_); (try simp only [Act.put, pA, pB, pC])) |  ((with_reducible refine wpB_load (by first | exact F_int | fail) wU wU (by assumption) wU ?_); (try simp only [Act.put, pA, pB, pC])) | ((with_reducible refine wpB_loadS (n := 2) (us := #[_, _]) (by fail) kR wU wU (by assumption) wU wU ?_); (try simp only [Act.put, pA, pB, pC])) | ((with_reducible refine wpB_loadS (n := 4) (us := #[_, _, _, _]) (by fail) kR wU wU (by assumption) wU wU ?_); (try simp only [Act.put, pA, pB, pC])) | ((refine wpQ_oneG ?_ wU (fun w' => ?_) ?_); rotate_left; (go_simp; rfl); (try simp only [Act.put, pA, pB, pC])))
 refine wpQuiet_nil ?_
 intro w1 hb1
 have hS1 := hS.mono hb1
 go_wp2_with (go_at_call 51; refine (mfirst_any _ _ [_, _, _, _] _ (reps_newN cIntS [_, _, _, _] 4 rfl (by decide) _ _ (by simp) rfl)).mono ?_; rw [firstE_z, firstE_z, firstE_z, firstE_head (by decide)]; rintro e w' ⟨rfl, rfl⟩)
 all_goals go_ret
 all_goals exact ⟨by rw [HV.out]; rfl, bal hS1.b _⟩
theorem cm_e10 (m : MacV) (ad : Option Addr) (cap : Nat) (w : World) (hR : Ints w ad cap m.sw) (hI : -9223372036854775808 ≤ m.gears ∧ m.gears ≤ 9223372036854775807) (hr : m.ring = true) (q : Int) (hq : m.gears.tmod 2 = q) (r1 : 1 ≤ m.gears) (r2 : m.gears ≤ 16) (n1 : decide (m.gears < 1) = false) (n2 : decide (16 < m.gears) = false) (hqb : (q == 1) = false) (ht : (m.turn != 1) = false)  (hd5 : decide (m.gears < m.sw.length) = true) (HV : Hid (macE m = 5)) :
  Calls Tryz.prog 84 #[mV m ad cap] w fun r w' => r = .returned (.int .i64 (macE m)) ∧ Below w.heap.size w w' := by
 have hcap := hR.le
 have hmx := hR.max
 unfold mV
 rw [hr]
 clear hr
 go_enter Tryz.func84, Tryz.ntmps84
 go_wp2_with fail
 have hS := (SL.nil w).box (.cells #[.bool true, .int .i64 m.gears, .int .i64 m.turn, .slice ad m.sw.length cap] 24)
 have q1 := (hS.blk 0 rfl).1
 refine wp_region_qt 34 kR kR ?_
 simp only [List.take_succ_cons, List.take_zero, List.drop_succ_cons, List.drop_zero]
 repeat (first | ((with_reducible refine wpB_load F_boolM wU wU q1 wU ?_); (try simp only [Act.put, pA, pB, pC])) | ((with_reducible refine wpB_load F_sliceM wU wU q1 wU ?_); (try simp only [Act.put, pA, pB, pC])) | ((with_reducible refine wpB_when wU wU wU ?_); (try simp only [Act.put, pA, pB, pC])) | ((with_reducible refine wpQ_skip wU ?_); (try simp only [Act.put, pA, pB, pC])) |  ((with_reducible refine wpB_load (by first | exact F_int | fail) wU wU (by assumption) wU ?_); (try simp only [Act.put, pA, pB, pC])) | ((with_reducible refine wpB_loadS (n := 2) (us := #[_, _]) (by fail) kR wU wU (by assumption) wU wU ?_); (try simp only [Act.put, pA, pB, pC])) | ((with_reducible refine wpB_loadS (n := 4) (us := #[_, _, _, _]) (by fail) kR wU wU (by assumption) wU wU ?_); (try simp only [Act.put, pA, pB, pC])) | ((refine wpQ_oneG ?_ wU (fun w' => ?_) ?_); rotate_left; (go_simp; rfl); (try simp only [Act.put, pA, pB, pC])))
 refine wpQuiet_nil ?_
 intro w1 hb1
 have hS1 := hS.mono hb1
 go_wp2_with (go_at_call 51; refine (mfirst_any _ _ [_, _, _, _] _ (reps_newN cIntS [_, _, _, _] 4 rfl (by decide) _ _ (by simp) rfl)).mono ?_; rw [firstE_z, firstE_z, firstE_z, firstE_head (by decide)]; rintro e w' ⟨rfl, rfl⟩)
 all_goals go_ret
 all_goals exact ⟨by rw [HV.out]; rfl, bal hS1.b _⟩
theorem cm_e11 (m : MacV) (ad : Option Addr) (cap : Nat) (w : World) (hR : Ints w ad cap m.sw) (hI : -9223372036854775808 ≤ m.gears ∧ m.gears ≤ 9223372036854775807) (hr : m.ring = true) (q : Int) (hq : m.gears.tmod 2 = q) (r1 : 1 ≤ m.gears) (r2 : m.gears ≤ 16) (n1 : decide (m.gears < 1) = false) (n2 : decide (16 < m.gears) = false) (hqb : (q == 1) = false) (ht : (m.turn != 1) = true) (htn : (m.turn != -1) = false) (hd5 : decide (m.gears < m.sw.length) = true) (HV : Hid (macE m = 5)) :
  Calls Tryz.prog 84 #[mV m ad cap] w fun r w' => r = .returned (.int .i64 (macE m)) ∧ Below w.heap.size w w' := by
 have hcap := hR.le
 have hmx := hR.max
 unfold mV
 rw [hr]
 clear hr
 go_enter Tryz.func84, Tryz.ntmps84
 go_wp2_with fail
 have hS := (SL.nil w).box (.cells #[.bool true, .int .i64 m.gears, .int .i64 m.turn, .slice ad m.sw.length cap] 24)
 have q1 := (hS.blk 0 rfl).1
 refine wp_region_qt 34 kR kR ?_
 simp only [List.take_succ_cons, List.take_zero, List.drop_succ_cons, List.drop_zero]
 repeat (first | ((with_reducible refine wpB_load F_boolM wU wU q1 wU ?_); (try simp only [Act.put, pA, pB, pC])) | ((with_reducible refine wpB_load F_sliceM wU wU q1 wU ?_); (try simp only [Act.put, pA, pB, pC])) | ((with_reducible refine wpB_when wU wU wU ?_); (try simp only [Act.put, pA, pB, pC])) | ((with_reducible refine wpQ_skip wU ?_); (try simp only [Act.put, pA, pB, pC])) |  ((with_reducible refine wpB_load (by first | exact F_int | fail) wU wU (by assumption) wU ?_); (try simp only [Act.put, pA, pB, pC])) | ((with_reducible refine wpB_loadS (n := 2) (us := #[_, _]) (by fail) kR wU wU (by assumption) wU wU ?_); (try simp only [Act.put, pA, pB, pC])) | ((with_reducible refine wpB_loadS (n := 4) (us := #[_, _, _, _]) (by fail) kR wU wU (by assumption) wU wU ?_); (try simp only [Act.put, pA, pB, pC])) | ((refine wpQ_oneG ?_ wU (fun w' => ?_) ?_); rotate_left; (go_simp; rfl); (try simp only [Act.put, pA, pB, pC])))
 refine wpQuiet_nil ?_
 intro w1 hb1
 have hS1 := hS.mono hb1
 go_wp2_with (go_at_call 51; refine (mfirst_any _ _ [_, _, _, _] _ (reps_newN cIntS [_, _, _, _] 4 rfl (by decide) _ _ (by simp) rfl)).mono ?_; rw [firstE_z, firstE_z, firstE_z, firstE_head (by decide)]; rintro e w' ⟨rfl, rfl⟩)
 all_goals go_ret
 all_goals exact ⟨by rw [HV.out]; rfl, bal hS1.b _⟩
end Go.Proofs.YtdeoogbiipodmaaGreat
