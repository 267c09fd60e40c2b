/- Contracts and plain facts that the claim uses (MbW MbF MbH MbI NrP AlA NrM CiB Lib2). Conditions: as each one states. -/
import Derived.RangeFuncNested
import Derived.RangeFuncBound
import Derived.RangeFuncCalls
import Derived.RangeFuncLeaves
import Derived.RangeFuncFrom
import Derived.Shelf.Abstract
import Derived.Shelf.RegionOpen
import Derived.WalkKit
import Derived.OwnWalkIn
import Derived.TacticsInMore
import Derived.LoopNIn
import Derived.LoopIn
import Derived.Test.YtndmeaoidihikaaGreatDoorProg
import Derived.WalkSpells
import Derived.Maps.AppendAt
import Derived.Deep.Quiet
import Derived.Maps.Own
import Derived.Maps.OwnSet
import Derived.Maps.Views
import Derived.WalkLawsBesides
import Derived.Laws.EntriesVeiled
import Derived.Deep.QuietTactic
import Derived.BigQuiet
import Derived.Shelf.Strings.Trim
import Derived.Shelf.Strings.SlTrimAscii
import Derived.Shelf.Strings.Repeat
import Derived.Shelf.Strings.OnBuilder
import Derived.Shelf.Strconv.Itoa1
import Derived.Shelf.Strconv.Itoa3
import Derived.Shelf.LaysM
import Derived.Ground.Names2Prog
import Derived.Lib.OthersKept
import Derived.Deep.RegionHeld3
import Derived.Deep.AppendLies
import Derived.Deep.RegionHeldLaw
import Derived.Deep.RegionLaw
import Derived.StillTail
import Derived.Laws.Tables
import Derived.IntWalk
import Derived.Laws.CopyOwn
import Derived.BigRegion
import Derived.ChangeAlike
import Derived.Shelf.Bits.Mul64
import Derived.Lib.ItoaLen
import Derived.Lib.ItoaMem
import Derived.Sort.LoopGhostIn
import Derived.Maps.RangeWalk
import Derived.Sort.QuietThIn
import Derived.Maps.Ext
import Derived.Deep.LoopGhost
import Derived.Test.YtndmeaoidihikaaGreatDoorXz01
import Derived.Test.YtndmeaoidihikaaGreatDoorXz02
import Derived.Test.YtndmeaoidihikaaGreatDoorXz03
import Derived.Test.YtndmeaoidihikaaGreatDoorXz04
import Derived.Test.YtndmeaoidihikaaGreatDoorXz05
import Derived.Test.YtndmeaoidihikaaGreatDoorXz06
import Derived.Test.YtndmeaoidihikaaGreatDoorXz07
set_option linter.all false

namespace Go.Proofs.YtndmeaoidihikaaGreatDoor
open Go.RowKit
set_option maxHeartbeats 8000000
set_option maxRecDepth 100000

/-- the word and its error. -/
noncomputable def wrdL (m : MacV) (l : List Int) (n : Int) : List Int := (wvM m l n.toNat).2
noncomputable def wrdE (m : MacV) (l : List Int) (n : Int) : Int := if weaveE m l n ≠ 0 then weaveE m l n else if 200 < (wrdL m l n).length then 26 else 0
theorem atL_zero (m : MacV) (l : List Int) : atL m l 0 = l := by
 unfold atL
 conv => rhs; rw [← List.map_id l]
 exact List.map_congr_left (fun x _ => rfl)
theorem atL_len (m : MacV) (l : List Int) (k : Nat) : (atL m l k).length = l.length := by simp [atL]
theorem wvM_len {m : MacV} (hg : m.gears ≤ 16) (l : List Int) : ∀ k : Nat, (wvM m l k).2.length ≤ 48 * k
 | 0 => by simp [wvM]
 | k + 1 => by
   have := wvM_len hg l k
   have h2 := crossM_len m (atL m l k)
   rw [wvM, weaveS_len]
   omega
theorem foldC_step {cs : List CrM} {i : Nat} (h : i < cs.length) (st : List Int × List Int) : (cs.take (i + 1)).foldl weaveC st = weaveC ((cs.take i).foldl weaveC st) (atD ⟨0, 0, 0, 0⟩ cs i) := by
 rw [List.take_succ_eq_append_getElem h, List.foldl_append]
 simp [atD, h]

theorem weaveC_at {st : List Int × List Int} {c : CrM} {p : Nat} (h : idxO st.1 c.going = some (p : Int)) : weaveC st c = (swpL st.1 p, st.2 ++ [if c.over = c.going then (p : Int) + 1 else -(p : Int) - 1]) := by
 have e : idxZ st.1 c.going = p := by unfold idxZ; rw [h]; rfl
 unfold weaveC letterC
 rw [e]
 rfl

section
variable {ops : Array Oper} {rest : List Oper} {a : Act} {Q : Exit → Act → World → Prop} {w : World} {ty : TypeId} {p : String} {af : Array Edge}
theorem wpList_stoI {x y : Operand} {pa : Addr} {u : Value} {v : Int} (hx : a.eval x = .pointer (some pa)) (hy : a.eval y = .int .i64 v) (hc : w.cell? pa = some u) (hf : w.frozen? pa = false)
  (h : wpList Tryz.prog ops Q rest (a.put none undef) (w.setCell pa (.int .i64 v))) :
  wpList Tryz.prog ops Q (⟨none, .store 3 x y, ty, p, af, none⟩ :: rest) a w := by
 refine wpList_plain rfl fun K hK' => ?_
 have hs := sto_int v w pa (by rw [hc]; rfl) hf
 unfold cInt at hs
 unfold Oper.wp
 simp only [execOp, hx, hy]
 simp [hs, Result.andThen]
 exact hK' _ _ h
end

theorem wrapP1 (p : Nat) (h : p ≤ 1000) : IntKind.i64.wrap ((p : Int) + 1) = (p : Int) + 1 := IntWalk.i64_in _ (by omega)
theorem wrapQ1 (p : Nat) (h : p ≤ 1000) : wrap64 ((p : Int) + 1) = (p : Int) + 1 := IntWalk.wrap64_in _ (by omega)
theorem wrapN1 (p : Nat) (h : p ≤ 1000) : IntKind.i64.wrap (-(p : Int)) = -(p : Int) := IntWalk.i64_in _ (by omega)
theorem wrapN2 (p : Nat) (h : p ≤ 1000) : IntKind.i64.wrap (-(p : Int) - 1) = -(p : Int) - 1 := IntWalk.i64_in _ (by omega)

theorem pkB (p K : Nat) (h : p + 1 < K) (h2 : K ≤ 64) : p ≤ 1000 ∧ (¬ (K : Int) ≤ (p : Int) + 1) ∧ (0 : Int) ≤ (p : Int) + 1 ∧ ¬ K ≤ p ∧ ¬ (K : Int) ≤ (p : Int) ∧ (p : Int) + 1 < K ∧ p < K := by
 refine ⟨?_, ?_, ?_, ?_, ?_, ?_, ?_⟩ <;> omega

theorem mWord_any (m : MacV) (ad : Option Addr) (cap : Nat) (al : Option Addr) (cl : Nat) (l : List Int) (n : Int) (w : World) (hR : Ints w ad cap m.sw) (hL : Ints w al cl l) (HK : ChkL m ad cap al cl l) :
  Calls Tryz.prog 25 #[mV m ad cap, .slice al l.length cl, .int .i64 n] w fun r w' => ∃ v, r = .returned (.tuple #[v, .int .i64 (wrdE m l n)]) ∧ OwnI w.heap.size w' v (if wrdE m l n = 0 then wrdL m l n else []) ∧ Below w.heap.size w w' := by
 have hcap := hL.le
 have hmx := hL.max
 have hS := (SL.nil w).box (.cells (mC m ad cap) 24)
 have q1 := (hS.blk 0 rfl).1
 have R1 := hR.below hS.b
 have L1 := hL.below hS.b
 have CW := checkWeave_any m ad cap al cl l n _ R1 L1 HK
 by_cases he : weaveE m l n = 0
 ·obtain ⟨hok, hr, hl12, hn0, hn1, hme⟩ := weaveE_zero he
  have hlo := hok.ok.lo
  have hhi := hok.ok.hi
  obtain ⟨N, rfl⟩ : ∃ N : Nat, n = N := ⟨n.toNat, by omega⟩
  have hrows := fun k hk => wvM_row hr hok.rng hme k hk
  have hsteps := fun k => atL_succ hok.rng k
  have hrngs := fun k => atL_rng hok.rng k
  have CO := fun w h => order_any m ad cap al cl l w h (by omega) hhi
  have CX := fun (k : Nat) a c w (h : Ints w a c (atL m l k)) => crossings_any m ad cap a c (atL m l k) w h (by omega) hhi
  have CN := fun (k : Nat) a c w (h : Ints w a c (atL m l k)) (h2 : Ints w ad cap m.sw) => mappedN_any (mV m ad cap) (nextM m) a c (atL m l k) w h (by rw [atL_len]; omega) (fun x hx w' hw' => mnext_any m ad cap x w' (h2.below hw') hhi (hrngs k x hx).1 (hrngs k x hx).2)
  have hgood := fun k => crossM_good m (atL m l k)
  have hcl := fun k => crossM_len m (atL m l k)
  have hv : wrdE m l N = if 200 < (wvM m l N).2.length then 26 else 0 := by unfold wrdE wrdL; rw [if_neg (by simp [he])]; rfl
  have hw : wrdL m l N = (wvM m l N).2 := rfl
  rw [hv, hw]
  rw [he] at CW
  have HC := hid CW; have HO := hid CO; have HX := hid CX; have HN := hid CN; have HROW := hid hrows; have HST := hid hsteps; have HG := hid hgood; have HCL := hid hcl
  clear CW CO CX CN hrows hsteps hrngs hgood hcl hv hw he hok hr hme HK
  go_enter Tryz.func25, Tryz.ntmps25
  go_wp2
  go_step3
  go_wp2_with (with_reducible refine wpList_ldS (n := 4) (us := mC m ad cap) A_mach kR wU wU (by assumption) wU wU ?_)
  refine HC.out.mono ?_
  rintro e w1 ⟨rfl, b1⟩
  have hS1 := hS.mono b1
  have q2 := (hS1.blk 0 rfl).1
  clear q1
  go_wp2_with (with_reducible refine wpList_ldS (n := 4) (us := mC m ad cap) A_mach kR wU wU (by assumption) wU wU ?_)
  refine (HO.out _ (hL.below hS1.b)).mono ?_
  rintro e w2 ⟨v2, rfl, ho2, b2⟩
  have hS2 := hS1.call (SL.ofOwn ho2 b2)
  simp only [List.cons_append, List.nil_append] at hS2
  have hS3 := ((hS2.newSrc hL).nilS (α := Int) (c := cInt) (sz := 1) (e := 3) cIntS).pick [2, 0, 1, 3] (by decide) [pOwn cInt 1 3 v2 (orderM m l), pOwn cInt 1 3 (.slice none 0 0) [], pSrc cInt 1 3 w (.slice al l.length cl) l, pBlk w.heap.size (.cells (mC m ad cap) 24)] rfl
  clear q2 hS2 hS1 hS ho2
  obtain ⟨a2, c2, rfl, _⟩ := hS3.slice 0 rfl
  obtain ⟨K, hK⟩ : ∃ K, K = (orderM m l).length := ⟨_, rfl⟩
  rw [← hK] at hS3 ⊢
  have hK64 : K ≤ 64 := by have := orderM_len m l; omega
  clear hK
  go_wp2_with fail
  go_step3
  go_wp2
  obtain ⟨Z, hZ⟩ : ∃ Z, Z = (wvM m l N).2.length := ⟨_, rfl⟩
  have HZ := hid hZ
  clear hZ
  go_loopg [26, 1, 10] N (fun g i lv ov wr => ∃ k : Nat, k + g = N ∧ i = .int .i64 k ∧ lenV ov = (wvM m l k).2.length ∧ SL w.heap.size w wr [pOwn cInt 1 3 (.slice a2 K c2) ((wvM m l k).1), pOwn cInt 1 3 ov ((wvM m l k).2), pSrc cInt 1 3 w lv (atL m l k), pBlk w.heap.size (.cells (mC m ad cap) 24)])
  case atStart => exact ⟨0, by omega, rfl, rfl, by rw [atL_zero]; exact hS3⟩
  case round =>
   clear hS3
   obtain ⟨k, hk, rfl, hlo, hSr⟩ := hrel
   cases gk with
   | zero =>
    have hkn : k = N := by omega
    subst hkn
    obtain ⟨ao, co, rfl, _⟩ := hSr.slice 1 rfl
    obtain ⟨O, hO⟩ : ∃ O, O = (wvM m l k).2 := ⟨_, rfl⟩
    rw [← hO] at hSr ⊢
    have HO2 := hid hO; have hSx := hid hSr
    clear hO hSr hlo
    by_cases hb : 200 < O.length
    ·have hb2 : ¬ O.length ≤ 200 := by omega
     go_wp2_with fail
     try rw [Exit.noGoto_ret]
     go_ret2
     rw [← HO2.out, if_pos hb, if_neg (by decide)]
     exact ⟨_, rfl, own_nil cIntS, hSx.out.b⟩
    ·go_wp2_with fail
     try rw [Exit.noGoto_ret]
     go_ret2
     rw [← HO2.out, if_neg hb, if_pos rfl]
     exact ⟨_, rfl, hSx.out.own 1 rfl, hSx.out.b⟩
   | succ g =>
    have hlt : k < N := by omega
    have hnx : wvM m l (k + 1) = (crossM m (atL m l k)).foldl weaveC (wvM m l k) := rfl
    have hgd := HG.out k
    have hcln := HCL.out k
    have hrw := HROW.out k (by omega)
    have hwl := wvM_len (m := m) hhi l k
    rw [← hrw] at hgd
    obtain ⟨a1, c1, rfl, hl1⟩ := hSr.src 2 rfl
    have q1 := (hSr.blk 3 rfl).1
    have HX1 := hid (HX.out k a1 c1)
    obtain ⟨cs, hcs⟩ : ∃ cs, cs = crossM m (atL m l k) := ⟨_, rfl⟩
    rw [← hcs] at HX1 hgd hcln hnx
    obtain ⟨r0, hr0⟩ : ∃ r0, r0 = (wvM m l k).1 := ⟨_, rfl⟩
    obtain ⟨o0, ho0⟩ : ∃ o0, o0 = (wvM m l k).2 := ⟨_, rfl⟩
    have hpr : wvM m l k = (r0, o0) := by rw [hr0, ho0]
    rw [hpr] at hnx
    rw [← hr0] at hgd hSr
    rw [← ho0] at hwl hlo hSr
    have HNX := hid hnx; have HGD := hid hgd; have HLO := hid hlo
    clear hcs hnx hgd hr0 ho0 hpr hlo hrw
    have hcl48 : cs.length ≤ 48 := by omega
    have hw5 : o0.length ≤ 48000 := by omega
    clear hcln hwl
    go_wp2_with (with_reducible refine wpList_ldS (n := 4) (us := mC m ad cap) A_mach kR wU wU (by assumption) wU wU ?_)
    refine (HX1.out _ hl1).mono ?_
    rintro e w3 ⟨vx, rfl, hox, b3⟩
    have hS4 := hSr.call (SL.ofOwn hox b3)
    simp only [List.cons_append, List.nil_append] at hS4
    obtain ⟨ax, cx, rfl, _⟩ := hS4.slice 0 rfl
    clear q1 hSr hox b3 hl1
    go_wp2_with fail
    go_loopg [32, 10] cs.length (fun g2 j ov wq => ∃ i : Nat, i + g2 = cs.length ∧ j = .int .i64 i ∧ lenV ov = o0.length + i ∧ SL w.heap.size w wq [pOwn cCr 4 104 (.slice ax cs.length cx) cs, pOwn cInt 1 3 (.slice a2 K c2) ((cs.take i).foldl rowC r0), pOwn cInt 1 3 ov ((cs.take i).foldl weaveC (r0, o0)).2, pSrc cInt 1 3 w (.slice a1 (atL m l k).length c1) (atL m l k), pBlk w.heap.size (.cells (mC m ad cap) 24)])
    case atStart => exact ⟨0, by omega, rfl, by rw [HLO.out]; omega, hS4⟩
    case round =>
     clear hS4
     obtain ⟨i, hi, rfl, hlo, hSq⟩ := hrel
     cases gk with
     | zero =>
      have hic : cs.take i = cs := List.take_of_length_le (by omega)
      rw [hic] at hSq
      have e1 : cs.foldl rowC r0 = (wvM m l (k + 1)).1 := by rw [HNX.out, fold_fst]
      have e2 : (cs.foldl weaveC (r0, o0)).2 = (wvM m l (k + 1)).2 := by rw [HNX.out]
      rw [e1, e2] at hSq
      obtain ⟨O, hO⟩ : ∃ O, O = (wvM m l (k + 1)).2 := ⟨_, rfl⟩
      rw [← hO] at hSq
      obtain ⟨ao, co, rfl, _⟩ := hSq.slice 2 rfl
      obtain ⟨a4, c4, e4, hl4⟩ := hSq.src 3 rfl
      cases e4
      have hmono := wvM_mono m l (j := k + 1) (k := N) (by omega)
      rw [← hO] at hmono
      have HO2 := hid hO; have hSx := hid hSq; have HM := hid hmono
      have q1 := (hSq.blk 4 rfl).1
      have R4 := hR.below hSq.b
      clear hO hSq hlo hic e1 e2 hmono
      by_cases hb : 200 < O.length
      ·have hb2 : ¬ O.length ≤ 200 := by omega
       have hb3 : decide (200 < (O.length : Int)) = true := decide_eq_true (by omega)
       go_wp2_with fail
       try rw [Exit.noGoto_ret]
       go_ret2
       rw [if_pos (by have := HM.out; omega), if_neg (by decide)]
       exact ⟨_, rfl, own_nil cIntS, hSx.out.b⟩
      ·have hb3 : decide (200 < (O.length : Int)) = false := decide_eq_false (by omega)
       go_wp2_with (with_reducible refine wpList_ldS (n := 4) (us := mC m ad cap) A_mach kR wU wU (by assumption) wU wU ?_)
       refine (HN.out k _ _ _ hl4 R4).mono ?_
       rintro e w5 ⟨vl, rfl, hol, b5⟩
       have hS6 := hSx.out.call (SL.ofOwn hol b5)
       simp only [List.cons_append, List.nil_append] at hS6
       have hst : (atL m l k).map (nextM m) = atL m l (k + 1) := HST.out k
       rw [hst] at hS6
       have hS7 := (hS6.weaken 0 rfl (pSrc cInt 1 3 w vl (atL m l (k + 1))) (fun b hb => .inr hb)).pick [2, 3, 0, 5] (by decide) [pOwn cInt 1 3 (.slice a2 K c2) (wvM m l (k + 1)).1, pOwn cInt 1 3 (.slice ao O.length co) O, pSrc cInt 1 3 w vl (atL m l (k + 1)), pBlk w.heap.size (.cells (mC m ad cap) 24)] rfl
       go_wp2_with fail
       go_roundg g
       case measure => omega
       case rel => exact ⟨k + 1, by omega, by go_num, by rw [← HO2.out]; rfl, by rw [← HO2.out]; exact hS7⟩
     | succ g2 =>
      have hic : i < cs.length := by omega
      obtain ⟨p, hp, hp1⟩ := goodC_at HGD.out hic
      have hst := foldC_step hic (r0, o0)
      have hwe : weaveC ((cs.take i).foldl weaveC (r0, o0)) (atD ⟨0, 0, 0, 0⟩ cs i) = (swpL ((cs.take i).foldl rowC r0) p, ((cs.take i).foldl weaveC (r0, o0)).2 ++ [if (atD ⟨0, 0, 0, 0⟩ cs i).over = (atD ⟨0, 0, 0, 0⟩ cs i).going then (p : Int) + 1 else -(p : Int) - 1]) := by
       have ec : atD (⟨0, 0, 0, 0⟩ : CrM) cs i = cs[i] := by simp [atD, hic]
       rw [ec]
       rw [weaveC_at (p := p) (by rw [fold_fst]; exact hp), fold_fst]
      rw [hwe] at hst
      have hst1 : (cs.take (i + 1)).foldl rowC r0 = swpL ((cs.take i).foldl rowC r0) p := by
       have := congrArg Prod.fst hst
       rw [fold_fst] at this
       exact this
      have hst2 := congrArg Prod.snd hst
      obtain ⟨R, hRr⟩ : ∃ R, R = (cs.take i).foldl rowC r0 := ⟨_, rfl⟩
      obtain ⟨O, hO⟩ : ∃ O, O = ((cs.take i).foldl weaveC (r0, o0)).2 := ⟨_, rfl⟩
      obtain ⟨x, hx⟩ : ∃ x, x = atD (⟨0, 0, 0, 0⟩ : CrM) cs i := ⟨_, rfl⟩
      have hpx : idxO R x.going = some (p : Int) := by
       rw [hx, hRr]
       have ec : atD (⟨0, 0, 0, 0⟩ : CrM) cs i = cs[i] := by simp [atD, hic]
       rw [ec]; exact hp
      rw [← hRr] at hSq hst1 hp1
      rw [← hO] at hSq hst2
      rw [← hx] at hst2
      have HX2 := hid hx; have HS1 := hid hst1; have HS2 := hid hst2
      clear hst hst1 hst2 hwe hp hRr hO hx
      obtain ⟨a', c', eK, _⟩ := hSq.slice 1 rfl
      have hKR : K = R.length := by simp only [Value.slice.injEq] at eK; exact eK.2.1
      clear eK
      obtain ⟨a8, c8, rfl, _⟩ := hSq.slice 2 rfl
      have hOl : O.length = o0.length + i := hlo
      have hO9 : O.length ≤ 1000000 := by omega
      have HOl := hid hOl
      clear hOl hlo
      have hRx := hSq.rd 0 rfl
      have hSc := hSq.box (.cells #[.int .i64 x.gear, .int .i64 x.over, .int .i64 x.under, .int .i64 x.going] 104)
      have q12 := (hSc.blk 0 rfl).1
      have CI := fun w h => sIndexO_any a2 c2 R x.going w h
      rw [hpx, ← hKR] at CI
      simp only [Option.getD_some] at CI
      have HI := hid CI; have HKR := hid hKR
      have hpK : p + 1 < K := by omega
      clear CI hKR hpx hp1
      go_wp2_with (first | ((with_reducible refine wpList_idxS _ ⟨0, 0, 0, 0⟩ E_crs A_crs cCr1 wU wU (hRx) oD oD (fun _ => wU) (fun _ => ?_)); rw [← HX2.out]) | (with_reducible refine wpList_ldB (by first | exact F_int | exact F_u64s) wU wU (by assumption) wU ?_))
      refine (HI.out _ (hSc.rd 2 rfl)).mono ?_
      rintro e w' ⟨rfl, rfl⟩
      obtain ⟨V, hV⟩ : ∃ V, V = wr.alloc (.cells #[.int .i64 x.gear, .int .i64 x.over, .int .i64 x.under, .int .i64 x.going] 104) := ⟨_, rfl⟩
      obtain ⟨b12, hb12⟩ : ∃ b, b = wr.heap.size := ⟨_, rfl⟩
      rw [← hV, ← hb12] at hSc q12 ⊢
      clear hV hb12 hRx q12
      have hKR := HKR.out
      have hSU := hSc.drew
      obtain ⟨U, hU⟩ : ∃ U, U = V.drew := ⟨_, rfl⟩
      rw [← hU] at hSU
      obtain ⟨g, hg, -, hcA, hfA, hS5⟩ := hSU.setOwn cInt1 2 rfl (p : Int) (by omega) (by omega) (atD 0 R ((p : Int) + 1))
      subst hg
      obtain ⟨g', hg', -, hcB, hfB, hS6⟩ := hS5.setOwn cInt1 2 rfl ((p : Int) + 1) (by omega) (by simp; omega) (atD 0 R (p : Int))
      cases hg'
      obtain ⟨g', hg', -, hcC, hfC, -⟩ := hSU.setOwn cInt1 2 rfl ((p : Int) + 1) (by omega) (by omega) 0
      cases hg'
      have eP : (p : Int).toNat = p := by simp
      have eP1 : ((p : Int) + 1).toNat = p + 1 := by omega
      have vA : R[p]?.map cInt = some (.int .i64 (atD 0 R (p : Int))) := by
       have : p < R.length := by omega
       simp [atD, this, cInt]
      have vB : R[p + 1]?.map cInt = some (.int .i64 (atD 0 R ((p : Int) + 1))) := by
       have : p + 1 < R.length := by omega
       simp [atD, eP1, this, cInt]
      simp only [eP, eP1] at hcA hfA hcB hfB hcC hfC hS5 hS6
      rw [vA] at hcA
      rw [vB] at hcC
      have hcB2 : (R.set p (atD 0 R ((p : Int) + 1)))[p + 1]?.map cInt = some (.int .i64 (atD 0 R ((p : Int) + 1))) := by
       rw [List.getElem?_set_ne (by omega)]; exact vB
      rw [hcB2] at hcB
      have hsw : (R.set p (atD 0 R ((p : Int) + 1))).set (p + 1) (atD 0 R (p : Int)) = swpL R p := by
       unfold swpL atD
       rw [eP1, eP]
      rw [hsw] at hS6
      obtain ⟨A0, hA0⟩ : ∃ A, A = atD 0 R (p : Int) := ⟨_, rfl⟩
      obtain ⟨A1, hA1⟩ : ∃ A, A = atD 0 R ((p : Int) + 1) := ⟨_, rfl⟩
      rw [← hA0] at hcA hS6
      rw [← hA1] at hcC hcB hfB hS5 hS6
      simp only [cInt] at hcB hfB hS5 hS6
      obtain ⟨hp9, hkA, hkB, hkC, hkD, hkE, hkF⟩ := pkB p K hpK hK64
      have hw1 := wrapQ1 p hp9
      have hw2 := wrapP1 p hp9
      have hUb := hSU.b
      clear hcB2 vA vB hA0 hA1 hsw hKR hSc hSq eP eP1
      go_wp2_with fail
      refine wp_regionK (C := (fun V' => Below w.heap.size w V')) [0, 1, 2, 3, 4, 5, 6, 7, 8, 10, 11, 12] [_, _, _, _, _, _, _, _, _, _, _, _] 6 (by simp only [List.map_cons, List.map_nil, List.getElem?_toArray]; rfl) rfl kR kR kR ((by rw [hU] at hUb; exact hUb)) ?_
      refine ⟨_, yieldsK_val wU (fun w' => by with_unfolding_all exact rfl), ?_⟩
      go_frame
      refine ⟨_, yieldsK_val wU (fun w' => by with_unfolding_all exact rfl), ?_⟩
      go_frame
      refine ⟨_, yieldsK_val wU (fun w' => by with_unfolding_all exact rfl), ?_⟩
      go_frame
      refine ⟨_, yieldsK_val wU (fun w' => by with_unfolding_all exact rfl), ?_⟩
      go_frame
      refine ⟨.int .i64 ((p : Int) + 1), yieldsK_val wU (fun w' => by first | (go_simp; done) | (go_simp; rfl)), ?_⟩
      go_frame
      refine ⟨_, yieldsK_val wU (fun w' => by with_unfolding_all exact rfl), ?_⟩
      go_frame
      refine ⟨_, yieldsK_val wU (fun w' => by with_unfolding_all exact rfl), ?_⟩
      go_frame
      refine ⟨.int .i64 ((p : Int) + 1), yieldsK_val wU (fun w' => by first | (go_simp; done) | (go_simp; rfl)), ?_⟩
      go_frame
      refine ⟨.pointer (some ⟨g, p + 1, none⟩), yieldsK_val wU (fun w' => by first | (go_simp; done) | (go_simp; rfl)), ?_⟩
      go_frame
      refine ⟨_, yieldsK_val wU (fun w' => by with_unfolding_all exact rfl), ?_⟩
      go_frame
      refine ⟨_, yieldsK_val wU (fun w' => by with_unfolding_all exact rfl), ?_⟩
      go_frame
      refine ⟨.pointer (some ⟨g, p, none⟩), yieldsK_val wU (fun w' => by first | (go_simp; done) | (go_simp; rfl)), ?_⟩
      go_frame
      unfold wpPureK
      have hVd : ({ V with drawn := V.drawn + 1 } : World) = V.drew := rfl
      rw [hVd, ← hU]
      clear hVd hU
      refine wpAnyC_on [9, 13] kR (by simp) ?_
      simp only [List.forall_mem_cons, List.not_mem_nil, false_implies, implies_true, and_true]
      refine ⟨?_, ?_⟩
      ·refine wpOp_value (v := .int .i64 A1) (w' := U) (by rw [List.getElem?_toArray]; rfl) wU (by first | (go_simp; done) | (go_simp; rfl) | (simp [execOp, Act.eval, Result.andThen]; done)) ?_
       refine ⟨hSU.b, ?_⟩
       go_frame
       refine wpAnyC_on [13] kR (by simp) ?_
       simp only [List.forall_mem_cons, List.not_mem_nil, false_implies, implies_true, and_true]
       refine wpOp_value (v := .int .i64 A0) (w' := U) (by rw [List.getElem?_toArray]; rfl) wU (by first | (go_simp; done) | (go_simp; rfl) | (simp [execOp, Act.eval, Result.andThen]; done)) ?_
       refine ⟨hSU.b, ?_⟩
       go_frame
       refine wpAnyC_on [14] kR (by simp) ?_
       simp only [List.forall_mem_cons, List.not_mem_nil, false_implies, implies_true, and_true]
       refine wpOp_value (v := .pointer (some ⟨g, p, none⟩)) (w' := U) (by rw [List.getElem?_toArray]; rfl) wU (by first | (go_simp; done) | (go_simp; rfl) | (simp [execOp, Act.eval, Result.andThen]; done)) ?_
       refine ⟨hSU.b, ?_⟩
       go_frame
       refine wpAnyC_on [15] kR (by simp) ?_
       simp only [List.forall_mem_cons, List.not_mem_nil, false_implies, implies_true, and_true]
       refine wpOp_of_list (by rw [List.getElem?_toArray]; rfl) ?_
       refine wpList_stoI (v := A1) wU wU hcA hfA ?_
       refine ⟨hS5.b, ?_⟩
       go_frame
       refine wpAnyC_on [16] kR (by simp) ?_
       simp only [List.forall_mem_cons, List.not_mem_nil, false_implies, implies_true, and_true]
       refine wpOp_value (v := .pointer (some ⟨g, p + 1, none⟩)) (w' := (U.setCell ⟨g, p, none⟩ (.int .i64 A1))) (by rw [List.getElem?_toArray]; rfl) wU (by first | (go_simp; done) | (go_simp; rfl) | (simp [execOp, Act.eval, Result.andThen]; done)) ?_
       refine ⟨hS5.b, ?_⟩
       go_frame
       refine wpAnyC_on [17] kR (by simp) ?_
       simp only [List.forall_mem_cons, List.not_mem_nil, false_implies, implies_true, and_true]
       refine wpOp_of_list (by rw [List.getElem?_toArray]; rfl) ?_
       refine wpList_stoI (v := A0) wU wU hcB hfB ?_
       refine ⟨hS6.b, ?_⟩
       go_frame
       refine wpAnyC_rest [] [] rfl rfl kR kR kR hS6.b ?_
       unfold wpPure
       refine of_wpList_nil (P := Tryz.prog) (ops := #[]) ?_
       obtain ⟨U2, hU2⟩ : ∃ U2, U2 = (U.setCell ⟨g, p, none⟩ (.int .i64 A1)).setCell ⟨g, p + 1, none⟩ (.int .i64 A0) := ⟨_, rfl⟩
       rw [← hU2] at hS6 ⊢
       clear hU2 hS5 hcA hcB hcC hfA hfB hfC hkA hkB hkC hkD hkE hkF hw1
       have q12 := (hS6.blk 0 rfl).1
       have hwn := wrapN1 p hp9
       have hwn2 := wrapN2 p hp9
       by_cases ho : x.over = x.going
       ·have d1 : (x.over == x.going) = true := by simpa using ho
        have e1 : (if x.over = x.going then (p : Int) + 1 else -(p : Int) - 1) = (p : Int) + 1 := if_pos ho
        have hst2 := HS2.out
        rw [e1] at hst2
        have HS3 := hid hst2
        clear ho e1 hst2
        go_wp2_with (first | (with_reducible refine wpList_ldS (n := 3) (us := #[.int .i64 x.gear, .int .i64 x.over, .int .i64 x.under]) A_xs kR wU wU (by assumption) wU wU ?_) | (with_reducible refine wpList_ldB F_int wU wU q12 wU ?_) | ((with_reducible refine wpList_pushL (y := ((p : Int) + 1)) 3 E_ints wU wU (hS6) wU cIntO ⟨rfl, rfl⟩ (by first | with_unfolding_all rfl | simp) wU (by first | omega | (simp; omega)) (by first | omega | (simp; omega)) ?_); intro v7 w7 hS7))
        obtain ⟨a7, c7, rfl, _⟩ := hS7.slice 3 rfl
        clear hwn hwn2 hw2
        go_roundg g2
        case measure => omega
        case rel =>
         refine ⟨i + 1, by omega, by go_num, by show (O ++ [(p : Int) + 1]).length = _; rw [List.length_append, HOl.out]; rfl, ?_⟩
         rw [HS1.out, HS3.out]
         exact hS7.tail
       ·have d1 : (x.over == x.going) = false := by simpa using ho
        have e1 : (if x.over = x.going then (p : Int) + 1 else -(p : Int) - 1) = -(p : Int) - 1 := if_neg ho
        have hst2 := HS2.out
        rw [e1] at hst2
        have HS3 := hid hst2
        clear ho e1 hst2
        go_wp2_with (first | (with_reducible refine wpList_ldS (n := 3) (us := #[.int .i64 x.gear, .int .i64 x.over, .int .i64 x.under]) A_xs kR wU wU (by assumption) wU wU ?_) | (with_reducible refine wpList_ldB F_int wU wU q12 wU ?_) | ((with_reducible refine wpList_pushL (y := (-(p : Int) - 1)) 3 E_ints wU wU (hS6) wU cIntO ⟨rfl, rfl⟩ (by first | with_unfolding_all rfl | simp) wU (by first | omega | (simp; omega)) (by first | omega | (simp; omega)) ?_); intro v7 w7 hS7))
        obtain ⟨a7, c7, rfl, _⟩ := hS7.slice 3 rfl
        clear hwn hwn2 hw2
        go_roundg g2
        case measure => omega
        case rel =>
         refine ⟨i + 1, by omega, by go_num, by show (O ++ [-(p : Int) - 1]).length = _; rw [List.length_append, HOl.out]; rfl, ?_⟩
         rw [HS1.out, HS3.out]
         exact hS7.tail
      ·refine wpOp_value (v := .int .i64 A0) (w' := U) (by rw [List.getElem?_toArray]; rfl) wU (by first | (go_simp; done) | (go_simp; rfl) | (simp [execOp, Act.eval, Result.andThen]; done)) ?_
       refine ⟨hSU.b, ?_⟩
       go_frame
       refine wpAnyC_on [9] kR (by simp) ?_
       simp only [List.forall_mem_cons, List.not_mem_nil, false_implies, implies_true, and_true]
       refine wpOp_value (v := .int .i64 A1) (w' := U) (by rw [List.getElem?_toArray]; rfl) wU (by first | (go_simp; done) | (go_simp; rfl) | (simp [execOp, Act.eval, Result.andThen]; done)) ?_
       refine ⟨hSU.b, ?_⟩
       go_frame
       refine wpAnyC_on [14] kR (by simp) ?_
       simp only [List.forall_mem_cons, List.not_mem_nil, false_implies, implies_true, and_true]
       refine wpOp_value (v := .pointer (some ⟨g, p, none⟩)) (w' := U) (by rw [List.getElem?_toArray]; rfl) wU (by first | (go_simp; done) | (go_simp; rfl) | (simp [execOp, Act.eval, Result.andThen]; done)) ?_
       refine ⟨hSU.b, ?_⟩
       go_frame
       refine wpAnyC_on [15] kR (by simp) ?_
       simp only [List.forall_mem_cons, List.not_mem_nil, false_implies, implies_true, and_true]
       refine wpOp_of_list (by rw [List.getElem?_toArray]; rfl) ?_
       refine wpList_stoI (v := A1) wU wU hcA hfA ?_
       refine ⟨hS5.b, ?_⟩
       go_frame
       refine wpAnyC_on [16] kR (by simp) ?_
       simp only [List.forall_mem_cons, List.not_mem_nil, false_implies, implies_true, and_true]
       refine wpOp_value (v := .pointer (some ⟨g, p + 1, none⟩)) (w' := (U.setCell ⟨g, p, none⟩ (.int .i64 A1))) (by rw [List.getElem?_toArray]; rfl) wU (by first | (go_simp; done) | (go_simp; rfl) | (simp [execOp, Act.eval, Result.andThen]; done)) ?_
       refine ⟨hS5.b, ?_⟩
       go_frame
       refine wpAnyC_on [17] kR (by simp) ?_
       simp only [List.forall_mem_cons, List.not_mem_nil, false_implies, implies_true, and_true]
       refine wpOp_of_list (by rw [List.getElem?_toArray]; rfl) ?_
       refine wpList_stoI (v := A0) wU wU hcB hfB ?_
       refine ⟨hS6.b, ?_⟩
       go_frame
       refine wpAnyC_rest [] [] rfl rfl kR kR kR hS6.b ?_
       unfold wpPure
       refine of_wpList_nil (P := Tryz.prog) (ops := #[]) ?_
       obtain ⟨U2, hU2⟩ : ∃ U2, U2 = (U.setCell ⟨g, p, none⟩ (.int .i64 A1)).setCell ⟨g, p + 1, none⟩ (.int .i64 A0) := ⟨_, rfl⟩
       rw [← hU2] at hS6 ⊢
       clear hU2 hS5 hcA hcB hcC hfA hfB hfC hkA hkB hkC hkD hkE hkF hw1
       have q12 := (hS6.blk 0 rfl).1
       have hwn := wrapN1 p hp9
       have hwn2 := wrapN2 p hp9
       by_cases ho : x.over = x.going
       ·have d1 : (x.over == x.going) = true := by simpa using ho
        have e1 : (if x.over = x.going then (p : Int) + 1 else -(p : Int) - 1) = (p : Int) + 1 := if_pos ho
        have hst2 := HS2.out
        rw [e1] at hst2
        have HS3 := hid hst2
        clear ho e1 hst2
        go_wp2_with (first | (with_reducible refine wpList_ldS (n := 3) (us := #[.int .i64 x.gear, .int .i64 x.over, .int .i64 x.under]) A_xs kR wU wU (by assumption) wU wU ?_) | (with_reducible refine wpList_ldB F_int wU wU q12 wU ?_) | ((with_reducible refine wpList_pushL (y := ((p : Int) + 1)) 3 E_ints wU wU (hS6) wU cIntO ⟨rfl, rfl⟩ (by first | with_unfolding_all rfl | simp) wU (by first | omega | (simp; omega)) (by first | omega | (simp; omega)) ?_); intro v7 w7 hS7))
        obtain ⟨a7, c7, rfl, _⟩ := hS7.slice 3 rfl
        clear hwn hwn2 hw2
        go_roundg g2
        case measure => omega
        case rel =>
         refine ⟨i + 1, by omega, by go_num, by show (O ++ [(p : Int) + 1]).length = _; rw [List.length_append, HOl.out]; rfl, ?_⟩
         rw [HS1.out, HS3.out]
         exact hS7.tail
       ·have d1 : (x.over == x.going) = false := by simpa using ho
        have e1 : (if x.over = x.going then (p : Int) + 1 else -(p : Int) - 1) = -(p : Int) - 1 := if_neg ho
        have hst2 := HS2.out
        rw [e1] at hst2
        have HS3 := hid hst2
        clear ho e1 hst2
        go_wp2_with (first | (with_reducible refine wpList_ldS (n := 3) (us := #[.int .i64 x.gear, .int .i64 x.over, .int .i64 x.under]) A_xs kR wU wU (by assumption) wU wU ?_) | (with_reducible refine wpList_ldB F_int wU wU q12 wU ?_) | ((with_reducible refine wpList_pushL (y := (-(p : Int) - 1)) 3 E_ints wU wU (hS6) wU cIntO ⟨rfl, rfl⟩ (by first | with_unfolding_all rfl | simp) wU (by first | omega | (simp; omega)) (by first | omega | (simp; omega)) ?_); intro v7 w7 hS7))
        obtain ⟨a7, c7, rfl, _⟩ := hS7.slice 3 rfl
        clear hwn hwn2 hw2
        go_roundg g2
        case measure => omega
        case rel =>
         refine ⟨i + 1, by omega, by go_num, by show (O ++ [-(p : Int) - 1]).length = _; rw [List.length_append, HOl.out]; rfl, ?_⟩
         rw [HS1.out, HS3.out]
         exact hS7.tail
 ·obtain ⟨E, hE⟩ : ∃ E, E = weaveE m l n := ⟨_, rfl⟩
  have hv : wrdE m l n = E := by unfold wrdE; rw [if_pos he, hE]
  rw [← hE] at CW he
  have hne : (E != 0) = true := by simpa using he
  rw [hv, if_neg he]
  have HC := hid CW
  clear hv hE CW HK
  go_enter Tryz.func25, Tryz.ntmps25
  go_wp2
  go_step3
  go_wp2_with (with_reducible refine wpList_ldS (n := 4) (us := mC m ad cap) A_mach kR wU wU (by assumption) wU wU ?_)
  refine HC.out.mono ?_
  rintro e w1 ⟨rfl, b1⟩
  have hS1 := hS.mono b1
  go_wp2_with fail
  try rw [Exit.noGoto_ret]
  go_ret2
  exact ⟨_, rfl, own_nil cIntS, hS1.b⟩
end Go.Proofs.YtndmeaoidihikaaGreatDoor

namespace Go.Proofs.YtndmeaoidihikaaGreatDoor
open Go.RowKit
set_option maxHeartbeats 2000000
set_option maxRecDepth 100000

section
variable {P : Program} {t e : TypeId} {w : World} {v : Value} {l : List Int} {y : Int}
theorem run_app_sib (ty : TypeId) (E : ETy P t e (.int .i64 0) 1 8) (hO : Own cInt 1 0 e w v l) {a : Option Addr} {cap : Nat} (hR : Reps cInt 1 w a cap [y]) (hl : l.length ≤ 1048576) :
  ∃ v' w', (Builtin.append_ #[t, t] ty #[v, .slice a 1 cap]).run P w = .ok v' w' ∧ Own cInt 1 0 e w' v' (l ++ [y]) ∧
   ((∃ g c, v = .slice (some ⟨g, 0, none⟩) l.length c ∧ v' = .slice (some ⟨g, 0, none⟩) (l.length + 1) c ∧ w.grownBy w' (some g)) ∨ (w.grownBy w' none ∧ v'.ownBlock = some w.heap.size)) := by
 obtain ⟨v', w', h1, h2, h3, h4⟩ := run_app ty E hO hR cIntO (by simp; omega) (by simp; omega) (Nat.zero_le _)
 refine ⟨v', w', h1, h2, ?_⟩
 obtain ⟨i, hi, hz, hs, hby⟩ := info_parts E.inf
 obtain ⟨b, o, rfl, hcell⟩ := hR.cells (by decide) 0 0 (by simp)
 have hy := hcell 0 (.int .i64 y) rfl
 simp only [Nat.zero_mul, Nat.add_zero] at hy
 have hnews : ∀ j u, ([.int .i64 y] : List Value)[j]? = some u → w.cell? ((⟨b, o, none⟩ : Addr).add j) = some u := by
  intro j u hu
  have hj : j = 0 := by have := (List.getElem?_eq_some_iff.1 hu).1; simp at this; omega
  subst hj
  simp at hu
  subst hu
  rw [Addr.add_z]
  exact hy
 have hfl : (l.flatMap fun x => (cInt x).cells.toList).length = l.length * 1 := flat_len _ 1 (fun x => by simpa using cIntS x) l
 have hO2 := hO.2
 rcases hO2.2 with ⟨rfl, h0⟩ | ⟨g, c, cur, rfl, _, hg, hnc, hcm, hcs, htk⟩
 ·right
  refine ⟨h3, ?_⟩
  rcases h4 with h4 | h4
  ·rcases h2.2.2 with ⟨rfl, h5⟩ | ⟨g', c', cur', rfl, _⟩
   ·simp at h5
   ·cases h4
  ·exact h4
 ·by_cases hroom : l.length + 1 ≤ c
  ·left
   have hr := run_append_room (P := P) w t ty e i E.und hi g l.length c cur hg ⟨b, o, none⟩ 1 cap [.int .i64 y] (by simp [hs]) hnews (by intro u hu; simp at hu; subst hu; rfl) hroom (by rw [hs, hcs]; simp; omega)
   have hr := h1.symm.trans hr
   injection hr with e1 e2
   subst e1
   exact ⟨g, c, rfl, rfl, h3⟩
  ·right
   have hr := run_append_grow (P := P) w t ty e i (.int .i64 0) E.und hi hz ⟨g, 0, none⟩ l.length c _ (by rw [hfl, hs]) (hO2.cells (g := g) rfl) ⟨b, o, none⟩ 1 cap [.int .i64 y] (by simp [hs]) hnews (by omega) (by omega) (growslice_fits (by omega) (by rw [hby]; omega))
   have hr := h1.symm.trans hr
   injection hr with e1 e2
   subst e1 e2
   refine ⟨⟨rfl, rfl, rfl, by simp, fun k hk _ => by first | exact heap_alloc_old w.drew _ k hk | exact heap_alloc_old w.drew _ hk⟩, rfl⟩
end
/-- what an append leaves of the shorter slice. -/
def Sib (v : Value) (l : List Int) (v' : Value) (T M : List Pc) : Prop :=
 (T = M ∧ ∃ g c, v = .slice (some ⟨g, 0, none⟩) l.length c ∧ v' = .slice (some ⟨g, 0, none⟩) (l.length + 1) c) ∨ T = pOwn cInt 1 3 v l :: M
theorem own_shorter {e : TypeId} {w : World} {g c : Nat} {l : List Int} {y : Int} {B : Nat} (h : Own cInt 1 B e w (.slice (some ⟨g, 0, none⟩) (l.length + 1) c) (l ++ [y])) : Own cInt 1 B e w (.slice (some ⟨g, 0, none⟩) l.length c) l := by
 obtain ⟨h1, h2, h3⟩ := h
 have hfl : ∀ L : List Int, (L.flatMap fun x => (cInt x).cells.toList).length = L.length * 1 := fun L => flat_len _ 1 (fun x => by simpa using cIntS x) L
 refine ⟨h1, hfl l, ?_⟩
 rcases h3 with ⟨h3, _⟩ | ⟨g', c', cur, hv, hB, hg, hnc, hcm, hcs, htk⟩
 ·cases h3
 ·simp only [Value.slice.injEq, Option.some.injEq, Addr.mk.injEq, and_true] at hv
  obtain ⟨rfl, _, rfl⟩ := hv
  refine .inr ⟨g, c, cur, rfl, hB, hg, ?_, hcm, hcs, ?_⟩
  ·simp at hnc; omega
  ·rw [List.flatMap_append] at htk
   have h4 := congrArg (List.take (l.length * 1)) htk
   rw [List.take_take, List.length_append, List.length_cons, List.length_nil] at h4
   rw [show min (l.length * 1) ((l.length + (0 + 1)) * 1) = l.length * 1 by omega] at h4
   rw [h4, ← hfl l, List.take_left]
theorem Sib.back {B : Nat} {w0 w : World} {v v' : Value} {l : List Int} {y : Int} {T M : List Pc} {p q : Pc} (h : Sib v l v' T M) (hS : SL B w0 w (p :: q :: pOwn cInt 1 3 v' (l ++ [y]) :: T)) : SL B w0 w (p :: q :: pOwn cInt 1 3 v l :: M) := by
 rcases h with ⟨rfl, g, c, rfl, rfl⟩ | rfl
 ·exact hS.weaken 2 rfl (pOwn cInt 1 3 (.slice (some ⟨g, 0, none⟩) l.length c) l) (fun b hb => ⟨own_shorter hb.1, hb.2⟩)
 ·exact SL.pickA (K := [p, q, pOwn cInt 1 3 v' (l ++ [y]), pOwn cInt 1 3 v l]) (M := M) hS [0, 1, 3] (by decide) (by simp) [p, q, pOwn cInt 1 3 v l] rfl
theorem sibFill {B : Nat} {w0 w : World} {v v' : Value} {l : List Int} {y : Int} {T L : List Pc} {p0 p1 p3 p4 : Pc} (h : Sib v l v' T (p0 :: p1 :: p3 :: p4 :: L)) (hS : SL B w0 w (pOwn cInt 1 3 v' (l ++ [y]) :: T)) :
  ∃ T', Sib v l v' T' L ∧ SL B w0 w (p0 :: p1 :: pOwn cInt 1 3 v' (l ++ [y]) :: p3 :: p4 :: T') := by
 rcases h with ⟨rfl, h⟩ | rfl
 ·exact ⟨L, .inl ⟨rfl, h⟩, SL.pickA (K := [pOwn cInt 1 3 v' (l ++ [y]), p0, p1, p3, p4]) (M := L) hS [1, 2, 0, 3, 4] (by decide) (by simp) [p0, p1, pOwn cInt 1 3 v' (l ++ [y]), p3, p4] rfl⟩
 ·exact ⟨_, .inr rfl, SL.pickA (K := [pOwn cInt 1 3 v' (l ++ [y]), pOwn cInt 1 3 v l, p0, p1, p3, p4]) (M := L) hS [2, 3, 0, 4, 5, 1] (by decide) (by simp) [p0, p1, pOwn cInt 1 3 v' (l ++ [y]), p3, p4, pOwn cInt 1 3 v l] rfl⟩
theorem Sib.back5 {B : Nat} {w0 w : World} {v v' : Value} {l : List Int} {y : Int} {T L : List Pc} {p0 p1 p3 p4 : Pc} (h : Sib v l v' T L) (hS : SL B w0 w (p0 :: p1 :: pOwn cInt 1 3 v' (l ++ [y]) :: p3 :: p4 :: T)) : SL B w0 w (p0 :: p1 :: pOwn cInt 1 3 v l :: p3 :: p4 :: L) := by
 rcases h with ⟨rfl, g, c, rfl, rfl⟩ | rfl
 ·exact hS.weaken 2 rfl (pOwn cInt 1 3 (.slice (some ⟨g, 0, none⟩) l.length c) l) (fun b hb => ⟨own_shorter hb.1, hb.2⟩)
 ·exact SL.pickA (K := [p0, p1, pOwn cInt 1 3 v' (l ++ [y]), p3, p4, pOwn cInt 1 3 v l]) (M := L) hS [0, 1, 5, 3, 4] (by decide) (by simp) [p0, p1, pOwn cInt 1 3 v l, p3, p4] rfl
section
variable {ops : Array Oper} {rest : List Oper} {a : Act} {Q : Exit → Act → World → Prop} {w0 w : World} {M : List Pc} {B : Nat} {v : Value} {l : List Int}
theorem wpList_pushSib {d : Option Tmp} {ty : TypeId} {p : String} {s x : Operand} {af : Array Edge} {H n cp : Nat} {y : Int} {T0 : TypeId} {fr : Nat × Nat}
   (hs : a.eval s = v) (hx : a.eval x = .slice (some ⟨H, 0, none⟩) n cp) (hS : SL B w0 w (pOwn cInt 1 3 v l :: M))
   (hn : n = 1 ∧ cp = 1) (hH : w.heap.size = H) (hl : l.length ≤ 1048576)
   (hK : ∀ v' w' T, Sib v l v' T M → SL B w0 w' (pOwn cInt 1 3 v' (l ++ [y]) :: T) → wpList Tryz.prog ops Q rest (a.put d v') w') :
   wpList Tryz.prog ops Q (⟨d, .call { callee := .builtin .append, args := #[s, x], argTypes := #[22, 22] }, ty, p, af, none⟩ :: rest) a (w.alloc (.cells #[.int .i64 y] T0 fr)) := by
 obtain ⟨rfl, rfl⟩ := hn
 have hS' := hS.al (.cells #[.int .i64 y] T0 fr)
 obtain ⟨b, ⟨h2, h3⟩, h4, h5⟩ := hS'.upd 0 rfl
 obtain ⟨v', w', r1, r2, r3⟩ := run_app_sib ty E_ints h2 (reps_new1 cIntS y #[.int .i64 y] fr hH rfl) hl
 refine wpList_plain rfl fun K hK' => ?_
 unfold Oper.wp execOp
 simp only [resolve, invoke, builtin, Sem.run_bind, Sem.run_pure, Result.andThen_ok, List.map_toArray, List.map_cons, List.map_nil, hs, hx, r1]
 refine hK' _ _ ?_
 rcases r3 with ⟨g, c, e1, e2, hg⟩ | ⟨hg, hb⟩
 ·refine hK v' w' M (.inl ⟨rfl, g, c, e1, e2⟩) ?_
  have hgb : b = some g := by rw [← h3, e1]; rfl
  exact h5 w' (pOwn cInt 1 3 v' (l ++ [y])) b (by rw [hgb]; exact hg) ⟨r2, by rw [hgb, e2]; rfl⟩ (.inl rfl)
 ·refine hK v' w' _ (.inr rfl) ?_
  refine hS'.new _ (b := some (w.alloc (.cells #[.int .i64 y] T0 fr)).heap.size) hg ⟨r2, hb⟩ (fun k e => by cases e; exact Nat.le_refl _)
end

def bigger (best l : List Int) : List Int := if best.length < l.length then l else best
noncomputable def extF (m : MacV) : Nat → List Int → List Int → Int → List Int
 | 0, best, _, _ => best
 | f + 1, best, l, s => if best.length < l.length + (f + 1) then extF m f (if apartM m s l then extF m f (bigger best (l ++ [s])) (l ++ [s]) (s + 1) else best) l (s + 1) else best
noncomputable def fillM (m : MacV) : List Int := extF m (4 * m.gears).toNat [] [] 0
theorem bigger_len (best l : List Int) (k : Nat) (h1 : best.length ≤ k) (h2 : l.length ≤ k) : (bigger best l).length ≤ k := by unfold bigger; split <;> assumption
theorem extF_len (m : MacV) : ∀ (f : Nat) (best l : List Int) (s : Int) (k : Nat), best.length ≤ k → l.length + f ≤ k → (extF m f best l s).length ≤ k
 | 0, best, l, s, k, h1, _ => h1
 | f + 1, best, l, s, k, h1, h2 => by
   rw [extF]
   split
   · refine extF_len m f _ _ _ k ?_ (by omega)
     split
     · exact extF_len m f _ _ _ k (bigger_len _ _ _ h1 (by simp; omega)) (by simp; omega)
     · exact h1
   · exact h1
end Go.Proofs.YtndmeaoidihikaaGreatDoor

namespace Go.Proofs.YtndmeaoidihikaaGreatDoor
open Go.RowKit
set_option maxHeartbeats 8000000
set_option maxRecDepth 100000

theorem wrapF1 (k N : Nat) (h : k ≤ 64) (h2 : N ≤ 64) : IntKind.i64.wrap ((k : Int) + N) = (k : Int) + N := IntWalk.i64_in _ (by omega)
theorem wrapF2 (k N : Nat) (s : Int) (h : k ≤ 64) (h2 : N ≤ 64) (h0 : 0 ≤ s) (h1 : s ≤ 64) : IntKind.i64.wrap ((k : Int) + N - s) = (k : Int) + N - s := IntWalk.i64_in _ (by omega)
theorem wrapF3 (s : Int) (h0 : 0 ≤ s) (h1 : s ≤ 64) : IntKind.i64.wrap (s + 1) = s + 1 := IntWalk.i64_in _ (by omega)
theorem F_fnF : Flat Tryz.prog 108 := ⟨_, Tryz.underlying108, rfl⟩
abbrev fillFn (bb bm be : Nat) : Value := .func (.func 71) #[] #[.pointer (some ⟨bb, 0, none⟩), .pointer (some ⟨bm, 0, none⟩), .pointer (some ⟨be, 0, none⟩)]
abbrev fillP (m : MacV) (ad : Option Addr) (cap bb bm be : Nat) (bv v : Value) (best l : List Int) (L : List Pc) : List Pc :=
 pBlk bb (.cells #[bv] 22) :: pOwn cInt 1 3 bv best :: pOwn cInt 1 3 v l :: pBlk bm (.cells (mC m ad cap) 24) :: pBlk be (.cells #[fillFn bb bm be] 108) :: L

theorem fill1_any (m : MacV) (ad : Option Addr) (cap bb bm be : Nat) (N : Nat) (hN : 4 * m.gears = N) (hN64 : N ≤ 64) (w0 : World) (hR : Ints w0 ad cap m.sw) : ∀ (f : Nat) (best l : List Int) (s : Int) (w : World) (bv v : Value) (L : List Pc),
  (f : Int) = N - s → 0 ≤ s → (∀ x ∈ l, 0 ≤ x ∧ x < N) → best.length ≤ 64 → l.length + f ≤ 64 → SL w0.heap.size w0 w (fillP m ad cap bb bm be bv v best l L) →
  Calls Tryz.prog 71 #[v, .int .i64 s, .pointer (some ⟨bb, 0, none⟩), .pointer (some ⟨bm, 0, none⟩), .pointer (some ⟨be, 0, none⟩)] w fun r w' => (∃ r0, r = .returned r0) ∧ ∃ bv', SL w0.heap.size w0 w' (fillP m ad cap bb bm be bv' v (extF m f (bigger best l) l s) l L) := by
 intro f
 induction f using Nat.strongRecOn with
 | _ f ih =>
  intro best l s w bv v L hf hs0 hl hb64 hlf hS
  obtain ⟨a, c, rfl, hlR⟩ := hS.slice 2 rfl
  obtain ⟨ab, cb, rfl, hbR⟩ := hS.slice 1 rfl
  have hcap := hlR.le
  have hmx := hlR.max
  have qb := (hS.blk 0 rfl).1
  have CS := fun w => slots_any m ad cap w (by omega) (by omega)
  rw [hN] at CS
  have HCS := hid CS
  have CA := fun (x : Int) w (h : Ints w ad cap m.sw) (h2 : Ints w a c l) (h0 : 0 ≤ x) (h1 : x < N) => apart_any m ad cap a c x l w h h2 (by omega) h0 (by omega) (fun y hy => by have := hl y hy; omega)
  have HCA := hid CA; have HL := hid hl; have IH := hid ih
  -- what follows the first lines
  by_cases hlt : best.length < l.length
  ·have hbg : bigger best l = l := by unfold bigger; rw [if_pos hlt]
   have hd : decide ((best.length : Int) < l.length) = true := decide_eq_true (by omega)
   rw [hbg]
   clear ih hl CS CA hbg hbR
   have HF := hid hf
   clear hf
   go_enter Tryz.func71, Tryz.ntmps71
   go_wp2_with (with_reducible refine wpList_ldB F_sliceM wU wU qb wU ?_)
   refine (cloneI_any a c l w hlR (by omega)).mono ?_
   rintro e w1 ⟨v1, rfl, ho1, b1⟩
   have hS1 := hS.call (SL.ofOwn ho1 b1)
   simp only [List.cons_append, List.nil_append] at hS1
   obtain ⟨a1, c1, rfl, _⟩ := hS1.slice 0 rfl
   clear qb hS ho1 b1
   go_wp2_with ((with_reducible refine wpList_sto1 (v := .slice a1 l.length c1) 1 wU wU hS1 rfl ?_); intro w2 hS2)
   have hSB := SL.pickA (K := [_, _, _, _, _, _]) (M := L) hS2 [1, 0, 3, 4, 5] (by decide) (by simp) [pBlk bb (.cells #[.slice a1 l.length c1] 22), pOwn cInt 1 3 (.slice a1 l.length c1) l, pOwn cInt 1 3 (.slice a l.length c) l, pBlk bm (.cells (mC m ad cap) 24), pBlk be (.cells #[fillFn bb bm be] 108)] rfl
   simp only [List.cons_append, List.nil_append] at hSB
   clear hS2 hS1
   have hB64 : l.length ≤ 64 := by omega
   go_loopg [7] f (fun g i wr => ∃ (s' : Int) (Br : List Int) (bvr : Value), i = .int .i64 s' ∧ 0 ≤ s' ∧ (g : Int) = N - s' ∧ g ≤ f ∧ Aside (extF m g Br l s' = extF m f l l s) ∧ Br.length ≤ 64 ∧ SL w0.heap.size w0 wr (fillP m ad cap bb bm be bvr (.slice a l.length c) Br l L))
   case atStart => exact ⟨s, l, _, rfl, hs0, HF.out, Nat.le_refl _, rfl, hB64, hSB⟩
   case round =>
    clear hSB
    obtain ⟨s', Br, bvr, rfl, hs1, hg, hgf, hex, hBr, hSr⟩ := hrel
    obtain ⟨abr, cbr, rfl, _⟩ := hSr.slice 1 rfl
    have qb := (hSr.blk 0 rfl).1
    have qm := (hSr.blk 3 rfl).1
    have q1 := hSr.b
    have HEX := hid hex
    clear hex
    cases gk with
    | zero =>
     have hd : decide (s' < (N : Int)) = false := decide_eq_false (by omega)
     have e0 : extF m 0 Br l s' = Br := rfl
     have HE0 := hid e0
     clear hg e0
     go_wp2_with fail
     refine wp_region_q kR kR ?_
     repeat (first | ((with_reducible refine wpQ_skip wU ?_); (try simp only [Act.put, pA, pB, pC])) | ((with_reducible refine wpB_loadS (n := 4) (us := mC m ad cap) A_mach kR wU wU qm wU wU ?_); (try simp only [Act.put, pA, pB, pC])) | ((with_reducible refine wpB_call (.int .i64 N) wU (fun w' => ?_) (fun w' hw' => HCS.out w') ?_); (focus (go_simp; done)); (try simp only [Act.put, pA, pB, pC])) |  ((with_reducible refine wpB_load (by first | exact F_int | exact F_u64s) wU wU (by assumption) wU ?_); (try simp only [Act.put, pA, pB, pC])) | ((refine wpQ_oneG ?_ wU (fun w' => ?_) ?_); rotate_left; (go_simp; rfl); (try simp only [Act.put, pA, pB, pC])))
     refine wpQuiet_nil ?_
     intro w5 hb5
     have hS5 := hSr.mono hb5
     go_wp2_with fail
     go_end0
     exact ⟨⟨_, rfl⟩, _, by rw [← HEX.out, HE0.out]; exact hS5⟩
    | succ g =>
     have hd : decide (s' < (N : Int)) = true := decide_eq_true (by omega)
     have hl64 : l.length ≤ 64 := by omega
     have hs64 : s' ≤ 64 := by omega
     have hsN : s' < N := by omega
     have hgg : (g : Int) = N - (s' + 1) := by omega
     have hgf2 : g < f := by omega
     have hgf3 : g ≤ f := by omega
     have hs2 : 0 ≤ s' + 1 := by omega
     have hlg : l.length + 1 + g ≤ 64 := by omega
     have hcN : Br.length < l.length + (g + 1) ↔ (Br.length : Int) < (l.length : Int) + N - s' := by omega
     have HGG := hid hgg; have HCN := hid hcN
     clear hg hgg hcN
     by_cases hc : Br.length < l.length + (g + 1)
     ·have hcd : decide ((Br.length : Int) < (l.length : Int) + N - s') = true := decide_eq_true (HCN.out.1 hc)
      have e1 : extF m (g + 1) Br l s' = extF m g (if apartM m s' l then extF m g (bigger Br (l ++ [s'])) (l ++ [s']) (s' + 1) else Br) l (s' + 1) := by rw [extF, if_pos hc]
      have CAs := fun w h h2 => HCA.out s' w h h2 hs1 hsN
      have HE1 := hid e1
      clear e1
      have hw1 := wrapF1 l.length N hl64 hN64
      have hw2 := wrapF2 l.length N s' hl64 hN64 hs1 hs64
      go_wp2_with fail
      refine wp_region_q kR kR ?_
      repeat (first | ((with_reducible refine wpQ_skip wU ?_); (try simp only [Act.put, pA, pB, pC])) | ((with_reducible refine wpB_loadS (n := 4) (us := mC m ad cap) A_mach kR wU wU qm wU wU ?_); (try simp only [Act.put, pA, pB, pC])) | ((with_reducible refine wpB_load F_sliceM wU wU qb wU ?_); (try simp only [Act.put, pA, pB, pC])) | ((with_reducible refine wpB_call (.int .i64 N) wU (fun w' => ?_) (fun w' hw' => HCS.out w') ?_); (focus (go_simp; done)); (try simp only [Act.put, pA, pB, pC])) |  ((with_reducible refine wpB_load (by first | exact F_int | exact F_u64s) wU wU (by assumption) wU ?_); (try simp only [Act.put, pA, pB, pC])) | ((refine wpQ_oneG ?_ wU (fun w' => ?_) ?_); rotate_left; (go_simp; rfl); (try simp only [Act.put, pA, pB, pC])))
      refine wpQuiet_nil ?_
      intro w5 hb5
      clear hw1 hw2
      have hS5 := hSr.mono hb5
      have qm5 := (hS5.blk 3 rfl).1
      clear qb qm hSr
      cases hap : apartM m s' l
      ·rw [hap] at CAs
       have HAP := hid hap; have HAS := hid CAs
       clear hap CAs
       go_wp2_with (with_reducible refine wpList_ldS (n := 4) (us := mC m ad cap) A_mach kR wU wU qm5 wU wU ?_)
       refine (HAS.out _ (hR.below hS5.b) (hS5.rd 2 rfl)).mono ?_
       rintro e w6 ⟨rfl, b6⟩
       have hS6 := hS5.mono b6
       clear hS5 qm5 hb5 q1
       have hw3 := wrapF3 s' hs1 hs64
       go_wp2_with fail
       clear hw3
       go_roundg g
       case measure => omega
       case rel => exact ⟨s' + 1, Br, _, rfl, hs2, HGG.out, hgf3, by rw [← HEX.out, HE1.out, HAP.out]; rfl, hBr, hS6⟩
      ·rw [hap] at CAs
       have HAP := hid hap; have HAS := hid CAs
       clear hap CAs
       go_wp2_with (with_reducible refine wpList_ldS (n := 4) (us := mC m ad cap) A_mach kR wU wU qm5 wU wU ?_)
       refine (HAS.out _ (hR.below hS5.b) (hS5.rd 2 rfl)).mono ?_
       rintro e w6 ⟨rfl, b6⟩
       have hS6 := hS5.mono b6
       clear hS5 qm5 hb5 q1
       have qe := (hS6.blk 4 rfl).1
       have kc : ∀ (V : World), (Below w0.heap.size w0 V ∧ V.heap[be]? = some (.cells #[fillFn bb bm be] 108)) → V.cell? ⟨be, 0, none⟩ = some (fillFn bb bm be) := by
        rintro V ⟨_, h⟩
        simp [World.cell?, h]
       go_wp2_with fail
       refine wp_regionK (C := (fun V => Below w0.heap.size w0 V ∧ V.heap[be]? = some (.cells #[fillFn bb bm be] 108))) [0, 1, 2, 5, 6] [_, _, _, _, _] 3 (by simp only [List.map_cons, List.map_nil, List.getElem?_toArray]; rfl) rfl kR kR kR (⟨hS6.b.drew, qe⟩) ?_
       refine ⟨_, yieldsK_cellC F_fnF (kc) wU wU, ?_⟩
       go_frame
       refine ⟨_, yieldsK_val wU (fun w' => by with_unfolding_all exact rfl), ?_⟩
       go_frame
       refine ⟨_, yieldsK_val wU (fun w' => by with_unfolding_all exact rfl), ?_⟩
       go_frame
       refine ⟨_, yieldsK_val wU (fun w' => by with_unfolding_all exact rfl), ?_⟩
       go_frame
       have hw3 := wrapF3 s' hs1 hs64
       refine ⟨.int .i64 (s' + 1), yieldsK_val wU (fun w' => by first | (go_simp; done) | (go_simp; rfl)), ?_⟩
       go_frame
       clear hw3
       unfold wpPureK
       have hVd : ({ w6 with drawn := w6.drawn + 1 } : World) = w6.drew := rfl
       rw [hVd]
       have hS7 := hS6.drew
       refine wpAnyC_on [3] kR (by simp) ?_
       simp only [List.forall_mem_cons, List.not_mem_nil, false_implies, implies_true, and_true]
       refine wpOp_value (v := .slice (some ⟨w6.drew.heap.size, 0, none⟩) 1 1) (w' := w6.drew.alloc (.cells #[.int .i64 s'] 3)) (by rw [List.getElem?_toArray]; rfl) wU (by first | (go_simp; done) | (go_simp; rfl) | (simp [execOp, Act.eval, Result.andThen]; done)) ?_
       refine ⟨⟨(hS7.al _).b, ((hS7.al _).blk 4 rfl).1⟩, ?_⟩
       go_frame
       refine wpAnyC_on [4] kR (by simp) ?_
       simp only [List.forall_mem_cons, List.not_mem_nil, false_implies, implies_true, and_true]
       refine wpOp_of_list (by rw [List.getElem?_toArray]; rfl) ?_
       have hS8 := SL.pickA (K := [_, _, _, _, _]) (M := L) hS7 [2, 0, 1, 3, 4] (by decide) (by simp) [pOwn cInt 1 3 (.slice a l.length c) l, pBlk bb (.cells #[.slice abr Br.length cbr] 22), pOwn cInt 1 3 (.slice abr Br.length cbr) Br, pBlk bm (.cells (mC m ad cap) 24), pBlk be (.cells #[fillFn bb bm be] 108)] rfl
       simp only [List.cons_append, List.nil_append] at hS8
       refine wpList_pushSib (y := s') wU wU hS8 ⟨rfl, rfl⟩ rfl (Nat.le_trans hl64 (by decide)) ?_
       intro v' w9 T hsib hS9
       obtain ⟨T', hsib2, hS10⟩ := sibFill hsib hS9
       refine ⟨⟨hS10.b, (hS10.blk 4 rfl).1⟩, ?_⟩
       go_frame
       refine wpAnyC_on [7] kR (by simp) ?_
       simp only [List.forall_mem_cons, List.not_mem_nil, false_implies, implies_true, and_true]
       refine wpOp_call (f := 71) (args := #[v', .int .i64 (s' + 1), .pointer (some ⟨bb, 0, none⟩), .pointer (some ⟨bm, 0, none⟩), .pointer (some ⟨be, 0, none⟩)]) (by rw [List.getElem?_toArray]; rfl) wU (by first | (go_simp; done) | (simp [execOp, Act.eval, Result.andThen]; done) | (simp [execOp, Act.eval, Result.andThen]; rfl)) ?_
       refine (IH.out g hgf2 Br (l ++ [s']) (s' + 1) w9 _ v' T' HGG.out hs2 (fun x hx => by
        rcases List.mem_append.1 hx with hx | hx
        ·exact HL.out x hx
        ·have : x = s' := by simpa using hx
         exact this ▸ ⟨hs1, hsN⟩) hBr (by rw [List.length_append, List.length_cons, List.length_nil]; exact hlg) hS10).mono ?_
       rintro e w11 ⟨⟨r0, rfl⟩, bv', hS11⟩
       have hS12 := hsib2.back5 hS11
       have hln := extF_len m g (bigger Br (l ++ [s'])) (l ++ [s']) (s' + 1) 64 (bigger_len _ _ _ hBr (by rw [List.length_append, List.length_cons, List.length_nil]; omega)) (by rw [List.length_append, List.length_cons, List.length_nil]; omega)
       refine ⟨_, rfl, ⟨hS12.b, (hS12.blk 4 rfl).1⟩, ?_⟩
       go_frame
       refine wpAnyC_rest [] [] rfl rfl kR kR kR ⟨hS12.b, (hS12.blk 4 rfl).1⟩ ?_
       unfold wpPure
       refine of_wpList_nil (P := Tryz.prog) (ops := #[]) ?_
       clear hS6 hS7 hS8 hS9 hS10 hS11 qe hsib hsib2
       have hw3 := wrapF3 s' hs1 hs64
       go_wp2_with fail
       clear hw3
       go_roundg g
       case measure => omega
       case rel => exact ⟨s' + 1, _, _, rfl, hs2, HGG.out, hgf3, by rw [← HEX.out, HE1.out, HAP.out]; rfl, hln, hS12⟩
     ·have hcd : decide ((Br.length : Int) < (l.length : Int) + N - s') = false := decide_eq_false (fun h => hc (HCN.out.2 h))
      have e1 : extF m (g + 1) Br l s' = Br := by rw [extF, if_neg hc]
      have HE1 := hid e1
      clear e1
      have hw1 := wrapF1 l.length N hl64 hN64
      have hw2 := wrapF2 l.length N s' hl64 hN64 hs1 hs64
      go_wp2_with fail
      refine wp_region_q kR kR ?_
      repeat (first | ((with_reducible refine wpQ_skip wU ?_); (try simp only [Act.put, pA, pB, pC])) | ((with_reducible refine wpB_loadS (n := 4) (us := mC m ad cap) A_mach kR wU wU qm wU wU ?_); (try simp only [Act.put, pA, pB, pC])) | ((with_reducible refine wpB_load F_sliceM wU wU qb wU ?_); (try simp only [Act.put, pA, pB, pC])) | ((with_reducible refine wpB_call (.int .i64 N) wU (fun w' => ?_) (fun w' hw' => HCS.out w') ?_); (focus (go_simp; done)); (try simp only [Act.put, pA, pB, pC])) |  ((with_reducible refine wpB_load (by first | exact F_int | exact F_u64s) wU wU (by assumption) wU ?_); (try simp only [Act.put, pA, pB, pC])) | ((refine wpQ_oneG ?_ wU (fun w' => ?_) ?_); rotate_left; (go_simp; rfl); (try simp only [Act.put, pA, pB, pC])))
      refine wpQuiet_nil ?_
      intro w5 hb5
      clear hw1 hw2
      have hS5 := hSr.mono hb5
      go_wp2_with fail
      go_end0
      exact ⟨⟨_, rfl⟩, _, by rw [← HEX.out, HE1.out]; exact hS5⟩

  ·have hbg : bigger best l = best := by unfold bigger; rw [if_neg hlt]
   have hd : decide ((best.length : Int) < l.length) = false := decide_eq_false (by omega)
   rw [hbg]
   clear ih hl CS CA hbg hbR
   have HF := hid hf
   clear hf
   go_enter Tryz.func71, Tryz.ntmps71
   go_wp2_with (with_reducible refine wpList_ldB F_sliceM wU wU qb wU ?_)
   have hSB := hS
   have hB64 := hb64
   clear qb hS
   go_loopg [7] f (fun g i wr => ∃ (s' : Int) (Br : List Int) (bvr : Value), i = .int .i64 s' ∧ 0 ≤ s' ∧ (g : Int) = N - s' ∧ g ≤ f ∧ Aside (extF m g Br l s' = extF m f best l s) ∧ Br.length ≤ 64 ∧ SL w0.heap.size w0 wr (fillP m ad cap bb bm be bvr (.slice a l.length c) Br l L))
   case atStart => exact ⟨s, best, _, rfl, hs0, HF.out, Nat.le_refl _, rfl, hB64, hSB⟩
   case round =>
    clear hSB
    obtain ⟨s', Br, bvr, rfl, hs1, hg, hgf, hex, hBr, hSr⟩ := hrel
    obtain ⟨abr, cbr, rfl, _⟩ := hSr.slice 1 rfl
    have qb := (hSr.blk 0 rfl).1
    have qm := (hSr.blk 3 rfl).1
    have q1 := hSr.b
    have HEX := hid hex
    clear hex
    cases gk with
    | zero =>
     have hd : decide (s' < (N : Int)) = false := decide_eq_false (by omega)
     have e0 : extF m 0 Br l s' = Br := rfl
     have HE0 := hid e0
     clear hg e0
     go_wp2_with fail
     refine wp_region_q kR kR ?_
     repeat (first | ((with_reducible refine wpQ_skip wU ?_); (try simp only [Act.put, pA, pB, pC])) | ((with_reducible refine wpB_loadS (n := 4) (us := mC m ad cap) A_mach kR wU wU qm wU wU ?_); (try simp only [Act.put, pA, pB, pC])) | ((with_reducible refine wpB_call (.int .i64 N) wU (fun w' => ?_) (fun w' hw' => HCS.out w') ?_); (focus (go_simp; done)); (try simp only [Act.put, pA, pB, pC])) |  ((with_reducible refine wpB_load (by first | exact F_int | exact F_u64s) wU wU (by assumption) wU ?_); (try simp only [Act.put, pA, pB, pC])) | ((refine wpQ_oneG ?_ wU (fun w' => ?_) ?_); rotate_left; (go_simp; rfl); (try simp only [Act.put, pA, pB, pC])))
     refine wpQuiet_nil ?_
     intro w5 hb5
     have hS5 := hSr.mono hb5
     go_wp2_with fail
     go_end0
     exact ⟨⟨_, rfl⟩, _, by rw [← HEX.out, HE0.out]; exact hS5⟩
    | succ g =>
     have hd : decide (s' < (N : Int)) = true := decide_eq_true (by omega)
     have hl64 : l.length ≤ 64 := by omega
     have hs64 : s' ≤ 64 := by omega
     have hsN : s' < N := by omega
     have hgg : (g : Int) = N - (s' + 1) := by omega
     have hgf2 : g < f := by omega
     have hgf3 : g ≤ f := by omega
     have hs2 : 0 ≤ s' + 1 := by omega
     have hlg : l.length + 1 + g ≤ 64 := by omega
     have hcN : Br.length < l.length + (g + 1) ↔ (Br.length : Int) < (l.length : Int) + N - s' := by omega
     have HGG := hid hgg; have HCN := hid hcN
     clear hg hgg hcN
     by_cases hc : Br.length < l.length + (g + 1)
     ·have hcd : decide ((Br.length : Int) < (l.length : Int) + N - s') = true := decide_eq_true (HCN.out.1 hc)
      have e1 : extF m (g + 1) Br l s' = extF m g (if apartM m s' l then extF m g (bigger Br (l ++ [s'])) (l ++ [s']) (s' + 1) else Br) l (s' + 1) := by rw [extF, if_pos hc]
      have CAs := fun w h h2 => HCA.out s' w h h2 hs1 hsN
      have HE1 := hid e1
      clear e1
      have hw1 := wrapF1 l.length N hl64 hN64
      have hw2 := wrapF2 l.length N s' hl64 hN64 hs1 hs64
      go_wp2_with fail
      refine wp_region_q kR kR ?_
      repeat (first | ((with_reducible refine wpQ_skip wU ?_); (try simp only [Act.put, pA, pB, pC])) | ((with_reducible refine wpB_loadS (n := 4) (us := mC m ad cap) A_mach kR wU wU qm wU wU ?_); (try simp only [Act.put, pA, pB, pC])) | ((with_reducible refine wpB_load F_sliceM wU wU qb wU ?_); (try simp only [Act.put, pA, pB, pC])) | ((with_reducible refine wpB_call (.int .i64 N) wU (fun w' => ?_) (fun w' hw' => HCS.out w') ?_); (focus (go_simp; done)); (try simp only [Act.put, pA, pB, pC])) |  ((with_reducible refine wpB_load (by first | exact F_int | exact F_u64s) wU wU (by assumption) wU ?_); (try simp only [Act.put, pA, pB, pC])) | ((refine wpQ_oneG ?_ wU (fun w' => ?_) ?_); rotate_left; (go_simp; rfl); (try simp only [Act.put, pA, pB, pC])))
      refine wpQuiet_nil ?_
      intro w5 hb5
      clear hw1 hw2
      have hS5 := hSr.mono hb5
      have qm5 := (hS5.blk 3 rfl).1
      clear qb qm hSr
      cases hap : apartM m s' l
      ·rw [hap] at CAs
       have HAP := hid hap; have HAS := hid CAs
       clear hap CAs
       go_wp2_with (with_reducible refine wpList_ldS (n := 4) (us := mC m ad cap) A_mach kR wU wU qm5 wU wU ?_)
       refine (HAS.out _ (hR.below hS5.b) (hS5.rd 2 rfl)).mono ?_
       rintro e w6 ⟨rfl, b6⟩
       have hS6 := hS5.mono b6
       clear hS5 qm5 hb5 q1
       have hw3 := wrapF3 s' hs1 hs64
       go_wp2_with fail
       clear hw3
       go_roundg g
       case measure => omega
       case rel => exact ⟨s' + 1, Br, _, rfl, hs2, HGG.out, hgf3, by rw [← HEX.out, HE1.out, HAP.out]; rfl, hBr, hS6⟩
      ·rw [hap] at CAs
       have HAP := hid hap; have HAS := hid CAs
       clear hap CAs
       go_wp2_with (with_reducible refine wpList_ldS (n := 4) (us := mC m ad cap) A_mach kR wU wU qm5 wU wU ?_)
       refine (HAS.out _ (hR.below hS5.b) (hS5.rd 2 rfl)).mono ?_
       rintro e w6 ⟨rfl, b6⟩
       have hS6 := hS5.mono b6
       clear hS5 qm5 hb5 q1
       have qe := (hS6.blk 4 rfl).1
       have kc : ∀ (V : World), (Below w0.heap.size w0 V ∧ V.heap[be]? = some (.cells #[fillFn bb bm be] 108)) → V.cell? ⟨be, 0, none⟩ = some (fillFn bb bm be) := by
        rintro V ⟨_, h⟩
        simp [World.cell?, h]
       go_wp2_with fail
       refine wp_regionK (C := (fun V => Below w0.heap.size w0 V ∧ V.heap[be]? = some (.cells #[fillFn bb bm be] 108))) [0, 1, 2, 5, 6] [_, _, _, _, _] 3 (by simp only [List.map_cons, List.map_nil, List.getElem?_toArray]; rfl) rfl kR kR kR (⟨hS6.b.drew, qe⟩) ?_
       refine ⟨_, yieldsK_cellC F_fnF (kc) wU wU, ?_⟩
       go_frame
       refine ⟨_, yieldsK_val wU (fun w' => by with_unfolding_all exact rfl), ?_⟩
       go_frame
       refine ⟨_, yieldsK_val wU (fun w' => by with_unfolding_all exact rfl), ?_⟩
       go_frame
       refine ⟨_, yieldsK_val wU (fun w' => by with_unfolding_all exact rfl), ?_⟩
       go_frame
       have hw3 := wrapF3 s' hs1 hs64
       refine ⟨.int .i64 (s' + 1), yieldsK_val wU (fun w' => by first | (go_simp; done) | (go_simp; rfl)), ?_⟩
       go_frame
       clear hw3
       unfold wpPureK
       have hVd : ({ w6 with drawn := w6.drawn + 1 } : World) = w6.drew := rfl
       rw [hVd]
       have hS7 := hS6.drew
       refine wpAnyC_on [3] kR (by simp) ?_
       simp only [List.forall_mem_cons, List.not_mem_nil, false_implies, implies_true, and_true]
       refine wpOp_value (v := .slice (some ⟨w6.drew.heap.size, 0, none⟩) 1 1) (w' := w6.drew.alloc (.cells #[.int .i64 s'] 3)) (by rw [List.getElem?_toArray]; rfl) wU (by first | (go_simp; done) | (go_simp; rfl) | (simp [execOp, Act.eval, Result.andThen]; done)) ?_
       refine ⟨⟨(hS7.al _).b, ((hS7.al _).blk 4 rfl).1⟩, ?_⟩
       go_frame
       refine wpAnyC_on [4] kR (by simp) ?_
       simp only [List.forall_mem_cons, List.not_mem_nil, false_implies, implies_true, and_true]
       refine wpOp_of_list (by rw [List.getElem?_toArray]; rfl) ?_
       have hS8 := SL.pickA (K := [_, _, _, _, _]) (M := L) hS7 [2, 0, 1, 3, 4] (by decide) (by simp) [pOwn cInt 1 3 (.slice a l.length c) l, pBlk bb (.cells #[.slice abr Br.length cbr] 22), pOwn cInt 1 3 (.slice abr Br.length cbr) Br, pBlk bm (.cells (mC m ad cap) 24), pBlk be (.cells #[fillFn bb bm be] 108)] rfl
       simp only [List.cons_append, List.nil_append] at hS8
       refine wpList_pushSib (y := s') wU wU hS8 ⟨rfl, rfl⟩ rfl (Nat.le_trans hl64 (by decide)) ?_
       intro v' w9 T hsib hS9
       obtain ⟨T', hsib2, hS10⟩ := sibFill hsib hS9
       refine ⟨⟨hS10.b, (hS10.blk 4 rfl).1⟩, ?_⟩
       go_frame
       refine wpAnyC_on [7] kR (by simp) ?_
       simp only [List.forall_mem_cons, List.not_mem_nil, false_implies, implies_true, and_true]
       refine wpOp_call (f := 71) (args := #[v', .int .i64 (s' + 1), .pointer (some ⟨bb, 0, none⟩), .pointer (some ⟨bm, 0, none⟩), .pointer (some ⟨be, 0, none⟩)]) (by rw [List.getElem?_toArray]; rfl) wU (by first | (go_simp; done) | (simp [execOp, Act.eval, Result.andThen]; done) | (simp [execOp, Act.eval, Result.andThen]; rfl)) ?_
       refine (IH.out g hgf2 Br (l ++ [s']) (s' + 1) w9 _ v' T' HGG.out hs2 (fun x hx => by
        rcases List.mem_append.1 hx with hx | hx
        ·exact HL.out x hx
        ·have : x = s' := by simpa using hx
         exact this ▸ ⟨hs1, hsN⟩) hBr (by rw [List.length_append, List.length_cons, List.length_nil]; exact hlg) hS10).mono ?_
       rintro e w11 ⟨⟨r0, rfl⟩, bv', hS11⟩
       have hS12 := hsib2.back5 hS11
       have hln := extF_len m g (bigger Br (l ++ [s'])) (l ++ [s']) (s' + 1) 64 (bigger_len _ _ _ hBr (by rw [List.length_append, List.length_cons, List.length_nil]; omega)) (by rw [List.length_append, List.length_cons, List.length_nil]; omega)
       refine ⟨_, rfl, ⟨hS12.b, (hS12.blk 4 rfl).1⟩, ?_⟩
       go_frame
       refine wpAnyC_rest [] [] rfl rfl kR kR kR ⟨hS12.b, (hS12.blk 4 rfl).1⟩ ?_
       unfold wpPure
       refine of_wpList_nil (P := Tryz.prog) (ops := #[]) ?_
       clear hS6 hS7 hS8 hS9 hS10 hS11 qe hsib hsib2
       have hw3 := wrapF3 s' hs1 hs64
       go_wp2_with fail
       clear hw3
       go_roundg g
       case measure => omega
       case rel => exact ⟨s' + 1, _, _, rfl, hs2, HGG.out, hgf3, by rw [← HEX.out, HE1.out, HAP.out]; rfl, hln, hS12⟩
     ·have hcd : decide ((Br.length : Int) < (l.length : Int) + N - s') = false := decide_eq_false (fun h => hc (HCN.out.2 h))
      have e1 : extF m (g + 1) Br l s' = Br := by rw [extF, if_neg hc]
      have HE1 := hid e1
      clear e1
      have hw1 := wrapF1 l.length N hl64 hN64
      have hw2 := wrapF2 l.length N s' hl64 hN64 hs1 hs64
      go_wp2_with fail
      refine wp_region_q kR kR ?_
      repeat (first | ((with_reducible refine wpQ_skip wU ?_); (try simp only [Act.put, pA, pB, pC])) | ((with_reducible refine wpB_loadS (n := 4) (us := mC m ad cap) A_mach kR wU wU qm wU wU ?_); (try simp only [Act.put, pA, pB, pC])) | ((with_reducible refine wpB_load F_sliceM wU wU qb wU ?_); (try simp only [Act.put, pA, pB, pC])) | ((with_reducible refine wpB_call (.int .i64 N) wU (fun w' => ?_) (fun w' hw' => HCS.out w') ?_); (focus (go_simp; done)); (try simp only [Act.put, pA, pB, pC])) |  ((with_reducible refine wpB_load (by first | exact F_int | exact F_u64s) wU wU (by assumption) wU ?_); (try simp only [Act.put, pA, pB, pC])) | ((refine wpQ_oneG ?_ wU (fun w' => ?_) ?_); rotate_left; (go_simp; rfl); (try simp only [Act.put, pA, pB, pC])))
      refine wpQuiet_nil ?_
      intro w5 hb5
      clear hw1 hw2
      have hS5 := hSr.mono hb5
      go_wp2_with fail
      go_end0
      exact ⟨⟨_, rfl⟩, _, by rw [← HEX.out, HE1.out]; exact hS5⟩
end Go.Proofs.YtndmeaoidihikaaGreatDoor

namespace Go.Proofs.YtndmeaoidihikaaGreatDoor
open Go.RowKit
set_option maxHeartbeats 8000000
set_option maxRecDepth 100000

noncomputable def fillE (m : MacV) : Int := if macE m ≠ 0 then macE m else if 4 < m.gears then 22 else 0
theorem gwhen (m : MacV) (b : Bool) (hb : decide (4 < m.gears) = b) (w : World) : Calls Tryz.prog 55 #[.bool (decide (4 < m.gears)), .int .i64 22] w fun r w' => r = .returned (.int .i64 (if b then 22 else 0)) ∧ Below w.heap.size w w' := by
 subst hb
 exact calls_below (mwhen_any _ 22 w)
theorem mFill_any (m : MacV) (ad : Option Addr) (cap : Nat) (w : World) (hR : Ints w ad cap m.sw) (HK : ChkM m ad cap) :
  Calls Tryz.prog 30 #[mV m ad cap] w fun r w' => ∃ v, r = .returned (.tuple #[v, .int .i64 (fillE m)]) ∧ OwnI w.heap.size w' v (if fillE m = 0 then fillM m else []) ∧ Below w.heap.size w w' := by
 have hS := (SL.nil w).box (.cells (mC m ad cap) 24)
 have q1 := (hS.blk 0 rfl).1
 have R1 := hR.below hS.b
 unfold ChkM at HK
 by_cases he : macE m = 0
 ·have hok := (macE_zero he).1
  have hlo := hok.lo
  have hhi := hok.hi
  rw [he] at HK
  by_cases hg : 4 < m.gears
  ·have hv : fillE m = 22 := by unfold fillE; rw [if_neg (by simp [he]), if_pos hg]
   have CW := gwhen m true (decide_eq_true hg)
   rw [hv]
   have HC := hid HK; have HW := hid CW
   clear HK CW hv he hok hg
   go_enter Tryz.func30, Tryz.ntmps30
   go_wp2_with fail
   refine wp_region_qt 6 kR kR ?_
   simp only [List.take_succ_cons, List.take_zero, List.drop_succ_cons, List.drop_zero]
   repeat (first | ((with_reducible refine wpB_loadS (n := 4) (us := mC m ad cap) A_mach kR wU wU (by assumption) wU wU ?_); (try simp only [Act.put, pA, pB, pC])) | ((with_reducible refine wpB_load F_int wU wU (by assumption) wU ?_); (try simp only [Act.put, pA, pB, pC])) | ((refine wpB_call (.int .i64 0) wU (fun w' => ?_) (fun w' hw' => HC.out w' (R1.below hw')) ?_); (focus (go_simp; done)); (try simp only [Act.put, pA, pB, pC])) | ((refine wpB_call (.int .i64 22) wU (fun w' => ?_) (fun w' hw' => HW.out w') ?_); (focus (go_simp; done)); (try simp only [Act.put, pA, pB, pC])) | ((with_reducible refine wpQ_skip wU ?_); (try simp only [Act.put, pA, pB, pC])) |  ((with_reducible refine wpB_load (by first | exact F_int | exact F_u64s) wU wU (by assumption) wU ?_); (try simp only [Act.put, pA, pB, pC])) | ((refine wpQ_oneG ?_ wU (fun w' => ?_) ?_); rotate_left; (go_simp; rfl); (try simp only [Act.put, pA, pB, pC])))
   refine wpQuiet_nil ?_
   intro w1 hb1
   have hS1 := hS.mono hb1
   go_wp2_with (go_at_call 56; refine (mfirst_any _ _ [_, _] _ (reps_newN cIntS [_, _] 2 rfl (by decide) _ _ (by simp) rfl)).mono ?_; rw [firstE_z, firstE_head (by decide)]; rintro e w' ⟨rfl, rfl⟩)
   go_ret2
   exact ⟨_, rfl, own_nil cIntS, bal hS1.b _⟩
  ·have hv : fillE m = 0 := by unfold fillE; rw [if_neg (by simp [he]), if_neg hg]
   have CW := gwhen m false (decide_eq_false hg)
   obtain ⟨N, hN⟩ : ∃ N : Nat, 4 * m.gears = N := ⟨(4 * m.gears).toNat, by omega⟩
   have hN64 : N ≤ 64 := by omega
   have hfil : extF m N (bigger [] []) [] 0 = fillM m := by unfold fillM; rw [show (4 * m.gears).toNat = N by omega]; rfl
   rw [hv, if_pos rfl]
   have HC := hid HK; have HW := hid CW; have HF := hid hfil; have HN := hid hN
   clear HK CW hv he hok hg hfil hN
   go_enter Tryz.func30, Tryz.ntmps30
   go_wp2_with fail
   refine wp_region_qt 6 kR kR ?_
   simp only [List.take_succ_cons, List.take_zero, List.drop_succ_cons, List.drop_zero]
   repeat (first | ((with_reducible refine wpB_loadS (n := 4) (us := mC m ad cap) A_mach kR wU wU (by assumption) wU wU ?_); (try simp only [Act.put, pA, pB, pC])) | ((with_reducible refine wpB_load F_int wU wU (by assumption) wU ?_); (try simp only [Act.put, pA, pB, pC])) | ((refine wpB_call (.int .i64 0) wU (fun w' => ?_) (fun w' hw' => HC.out w' (R1.below hw')) ?_); (focus (go_simp; done)); (try simp only [Act.put, pA, pB, pC])) | ((refine wpB_call (.int .i64 0) wU (fun w' => ?_) (fun w' hw' => HW.out w') ?_); (focus (go_simp; done)); (try simp only [Act.put, pA, pB, pC])) | ((with_reducible refine wpQ_skip wU ?_); (try simp only [Act.put, pA, pB, pC])) |  ((with_reducible refine wpB_load (by first | exact F_int | exact F_u64s) wU wU (by assumption) wU ?_); (try simp only [Act.put, pA, pB, pC])) | ((refine wpQ_oneG ?_ wU (fun w' => ?_) ?_); rotate_left; (go_simp; rfl); (try simp only [Act.put, pA, pB, pC])))
   refine wpQuiet_nil ?_
   intro w1 hb1
   have hS1 := hS.mono hb1
   have hS2 := hS1.al (.cells #[.int .i64 0, .int .i64 0] 29)
   obtain ⟨W2, hW2⟩ : ∃ W2, W2 = w1.alloc (.cells #[.int .i64 0, .int .i64 0] 29) := ⟨_, rfl⟩
   have hS3 := (((hS2.nilS (α := Int) (c := cInt) (sz := 1) (e := 3) cIntS).nilS (α := Int) (c := cInt) (sz := 1) (e := 3) cIntS).box (.cells #[.slice none 0 0] 22)).box (.cells #[fillFn (w1.alloc (.cells #[.int .i64 0, .int .i64 0] 29)).heap.size w.heap.size ((w1.alloc (.cells #[.int .i64 0, .int .i64 0] 29)).alloc (.cells #[.slice none 0 0] 22)).heap.size] 108)
   clear hW2
   simp only [World.size_alloc] at hS3
   have hS4 := hS3.pick [1, 2, 3, 4, 0] (by decide) (fillP m ad cap (w1.heap.size + 1) w.heap.size (w1.heap.size + 1 + 1) (.slice none 0 0) (.slice none 0 0) [] [] []) rfl
   have q5 := (hS4.blk 4 rfl).1
   clear q1 hS hS1 hS2 hS3
   go_wp2_with (first | (go_at_call 56; refine (mfirst_any _ _ [_, _] _ (reps_newN cIntS [_, _] 2 rfl (by decide) _ _ (by simp) rfl)).mono ?_; rw [firstE_z, firstE_z, firstE_nil]; rintro e w' ⟨rfl, rfl⟩) | (with_reducible refine wpList_ldB F_fnF wU wU q5 wU ?_))
   refine (fill1_any m ad cap _ _ _ N HN.out hN64 w hR N [] [] 0 _ (.slice none 0 0) (.slice none 0 0) [] (by omega) (by decide) (fun x hx => by simp at hx) (by decide) (by simpa using hN64) hS4).mono ?_
   rintro e w5 ⟨⟨r0, rfl⟩, bv', hS5⟩
   rw [HF.out] at hS5
   have q6 := (hS5.blk 0 rfl).1
   clear q5 hS4
   go_wp2_with (with_reducible refine wpList_ldB F_sliceM wU wU q6 wU ?_)
   go_ret2
   exact ⟨_, rfl, hS5.own 1 rfl, hS5.b⟩
 ·obtain ⟨E, hE⟩ : ∃ E, E = macE m := ⟨_, rfl⟩
  have hv : fillE m = E := by unfold fillE; rw [if_pos he, hE]
  rw [← hE] at HK he
  have hne : (E != 0) = true := by simpa using he
  rw [hv, if_neg he]
  have HC := hid HK
  clear hv hE HK
  cases hg : decide (4 < m.gears)
  all_goals
   have CW := gwhen m _ hg
   have HW := hid CW
   clear CW hg
   go_enter Tryz.func30, Tryz.ntmps30
   go_wp2_with fail
   first
    | refine wp_region_qt 6 kR kR ?_
      simp only [List.take_succ_cons, List.take_zero, List.drop_succ_cons, List.drop_zero]
      repeat (first | ((with_reducible refine wpB_loadS (n := 4) (us := mC m ad cap) A_mach kR wU wU (by assumption) wU wU ?_); (try simp only [Act.put, pA, pB, pC])) | ((with_reducible refine wpB_load F_int wU wU (by assumption) wU ?_); (try simp only [Act.put, pA, pB, pC])) | ((refine wpB_call (.int .i64 E) wU (fun w' => ?_) (fun w' hw' => HC.out w' (R1.below hw')) ?_); (focus (go_simp; done)); (try simp only [Act.put, pA, pB, pC])) | ((refine wpB_call (.int .i64 22) wU (fun w' => ?_) (fun w' hw' => HW.out w') ?_); (focus (go_simp; done)); (try simp only [Act.put, pA, pB, pC])) | ((with_reducible refine wpQ_skip wU ?_); (try simp only [Act.put, pA, pB, pC])) |  ((with_reducible refine wpB_load (by first | exact F_int | exact F_u64s) wU wU (by assumption) wU ?_); (try simp only [Act.put, pA, pB, pC])) | ((refine wpQ_oneG ?_ wU (fun w' => ?_) ?_); rotate_left; (go_simp; rfl); (try simp only [Act.put, pA, pB, pC])))
      refine wpQuiet_nil ?_
      intro w1 hb1
      have hS1 := hS.mono hb1
      go_wp2_with (go_at_call 56; refine (mfirst_any _ _ [_, _] _ (reps_newN cIntS [_, _] 2 rfl (by decide) _ _ (by simp) rfl)).mono ?_; rw [firstE_head he]; rintro e w' ⟨rfl, rfl⟩)
      go_ret2
      exact ⟨_, rfl, own_nil cIntS, bal hS1.b _⟩
    | refine wp_region_qt 6 kR kR ?_
      simp only [List.take_succ_cons, List.take_zero, List.drop_succ_cons, List.drop_zero]
      repeat (first | ((with_reducible refine wpB_loadS (n := 4) (us := mC m ad cap) A_mach kR wU wU (by assumption) wU wU ?_); (try simp only [Act.put, pA, pB, pC])) | ((with_reducible refine wpB_load F_int wU wU (by assumption) wU ?_); (try simp only [Act.put, pA, pB, pC])) | ((refine wpB_call (.int .i64 E) wU (fun w' => ?_) (fun w' hw' => HC.out w' (R1.below hw')) ?_); (focus (go_simp; done)); (try simp only [Act.put, pA, pB, pC])) | ((refine wpB_call (.int .i64 0) wU (fun w' => ?_) (fun w' hw' => HW.out w') ?_); (focus (go_simp; done)); (try simp only [Act.put, pA, pB, pC])) | ((with_reducible refine wpQ_skip wU ?_); (try simp only [Act.put, pA, pB, pC])) |  ((with_reducible refine wpB_load (by first | exact F_int | exact F_u64s) wU wU (by assumption) wU ?_); (try simp only [Act.put, pA, pB, pC])) | ((refine wpQ_oneG ?_ wU (fun w' => ?_) ?_); rotate_left; (go_simp; rfl); (try simp only [Act.put, pA, pB, pC])))
      refine wpQuiet_nil ?_
      intro w1 hb1
      have hS1 := hS.mono hb1
      go_wp2_with (go_at_call 56; refine (mfirst_any _ _ [_, _] _ (reps_newN cIntS [_, _] 2 rfl (by decide) _ _ (by simp) rfl)).mono ?_; rw [firstE_head he]; rintro e w' ⟨rfl, rfl⟩)
      go_ret2
      exact ⟨_, rfl, own_nil cIntS, bal hS1.b _⟩
end Go.Proofs.YtndmeaoidihikaaGreatDoor

namespace Go.Proofs.YtndmeaoidihikaaGreatDoor
open Go.RowKit
set_option maxHeartbeats 1000000
set_option maxRecDepth 100000

theorem decD_small {u : Nat} (h : u < 10) : Lib.decDigits u = [UInt8.ofNat (48 + u)] := by rw [Lib.decDigits, dif_pos h]
theorem decD_big {u : Nat} (h : ¬ u < 10) : Lib.decDigits u = Lib.decDigits (u / 10) ++ [UInt8.ofNat (48 + u % 10)] := by rw [Lib.decDigits, dif_neg h]
theorem itoaB_nat (u : Nat) : itoaB (u : Int) = ⟨(Lib.decDigits u).toArray⟩ := by unfold itoaB; rw [Lib.itoa_nonneg]
theorem digB {d : Nat} (h : d < 10) : (UInt8.ofNat (48 + d)).toNat = 48 + d := by
 rw [UInt8.toNat_ofNat']; omega
theorem decD_dig (u : Nat) : ∀ b ∈ Lib.decDigits u, 48 ≤ b.toNat ∧ b.toNat ≤ 57 := by
 induction u using Nat.strongRecOn with
 | _ u ih =>
  by_cases h : u < 10
  ·rw [decD_small h]; intro b hb
   simp only [List.mem_singleton] at hb
   subst hb; rw [digB h]; omega
  ·rw [decD_big h]; intro b hb
   rcases List.mem_append.1 hb with hb | hb
   ·exact ih (u / 10) (by omega) b hb
   ·simp only [List.mem_singleton] at hb
    subst hb; rw [digB (Nat.mod_lt _ (by decide))]; omega
theorem decD_pos (u : Nat) : 0 < (Lib.decDigits u).length := by
 by_cases h : u < 10
 ·rw [decD_small h]; simp
 ·rw [decD_big h]; simp
/-- the number that digits give. -/
def valL (l : List UInt8) : Nat := l.foldl (fun n b => 10 * n + (b.toNat - 48)) 0
theorem valL_snoc (l : List UInt8) (b : UInt8) : valL (l ++ [b]) = 10 * valL l + (b.toNat - 48) := by simp [valL]
theorem valL_dec (u : Nat) : valL (Lib.decDigits u) = u := by
 induction u using Nat.strongRecOn with
 | _ u ih =>
  by_cases h : u < 10
  ·rw [decD_small h]
   show 10 * 0 + ((UInt8.ofNat (48 + u)).toNat - 48) = u
   rw [digB h]; omega
  ·rw [decD_big h, valL_snoc, ih (u / 10) (by omega), digB (Nat.mod_lt _ (by decide))]; omega
theorem valL_take {l : List UInt8} {k : Nat} (h : k < l.length) : valL (l.take (k + 1)) = 10 * valL (l.take k) + (l[k].toNat - 48) := by
 rw [List.take_succ_eq_append_getElem h, valL_snoc]
theorem valL_lt (l : List UInt8) (h : ∀ b ∈ l, 48 ≤ b.toNat ∧ b.toNat ≤ 57) : ∀ k, k ≤ l.length → valL (l.take k) < 10 ^ k
 | 0, _ => by simp [valL]
 | k + 1, hk => by
   rw [valL_take (by omega), Nat.pow_succ]
   have h1 := valL_lt l h k (by omega)
   have h2 := h l[k] (List.getElem_mem _)
   omega

def bT (l : List UInt8) : ByteArray := ⟨l.toArray⟩
theorem bT_size (l : List UInt8) : (bT l).size = l.length := rfl
theorem itoaB_bT (u : Nat) : itoaB (u : Int) = bT (Lib.decDigits u) := itoaB_nat u

/-- digits to the base 10^9 of a small number. -/
def wD (n : Nat) : List Int := if n = 0 then [] else [(n : Int)]
end Go.Proofs.YtndmeaoidihikaaGreatDoor

namespace Go.Proofs.YtndmeaoidihikaaGreatDoor
open Go.RowKit
set_option maxHeartbeats 1000000
set_option maxRecDepth 100000

theorem reps_of_own {α : Type} {c : α → Value} {sz B : Nat} {e : TypeId} {w : World} {a : Option Addr} {n cap : Nat} {l : List α} (h : Own c sz B e w (.slice a n cap) l) (hn : n = l.length) : Reps c sz w a cap l := by
 subst hn
 obtain ⟨a', cap', e1, hr, _⟩ := h.reps
 cases e1
 exact hr

end Go.Proofs.YtndmeaoidihikaaGreatDoor

namespace Go.Proofs.YtndmeaoidihikaaGreatDoor
open Go.RowKit
set_option maxHeartbeats 1000000
set_option maxRecDepth 100000

end Go.Proofs.YtndmeaoidihikaaGreatDoor

namespace Go.Proofs.YtndmeaoidihikaaGreatDoor
open Go.RowKit
set_option maxHeartbeats 1000000
set_option maxRecDepth 100000

end Go.Proofs.YtndmeaoidihikaaGreatDoor

namespace Go.Proofs.YtndmeaoidihikaaGreatDoor
open Go.RowKit
set_option maxHeartbeats 2000000
set_option maxRecDepth 100000

end Go.Proofs.YtndmeaoidihikaaGreatDoor

namespace Go.Proofs.YtndmeaoidihikaaGreatDoor
open Go.RowKit
set_option maxHeartbeats 2000000
set_option maxRecDepth 100000

/-- an integer of the reference that is not negative, and small. -/
def NatR (w : World) (v : Value) (n : Nat) : Prop := ∃ a cap, v = .agg #[.bool false, .slice a (wD n).length cap] ∧ Ints w a cap (wD n)
theorem NatR.below {w w' : World} {v : Value} {n : Nat} (h : NatR w v n) (hb : Below w.heap.size w w') : NatR w' v n := by
 obtain ⟨a, cap, h1, h2⟩ := h; exact ⟨a, cap, h1, h2.below hb⟩

end Go.Proofs.YtndmeaoidihikaaGreatDoor

namespace Go.Proofs.YtndmeaoidihikaaGreatDoor
open Go.RowKit
set_option maxHeartbeats 2000000
set_option maxRecDepth 100000

end Go.Proofs.YtndmeaoidihikaaGreatDoor

namespace Go.Proofs.YtndmeaoidihikaaGreatDoor
open Go.RowKit
set_option maxHeartbeats 2000000
set_option maxRecDepth 100000

theorem decD_first {u : Nat} (h : 0 < u) : ∃ b r, Lib.decDigits u = b :: r ∧ 49 ≤ b.toNat ∧ b.toNat ≤ 57 := by
 induction u using Nat.strongRecOn with
 | _ u ih =>
  by_cases h10 : u < 10
  ·rw [decD_small h10]
   refine ⟨_, [], rfl, ?_⟩
   rw [digB h10]; omega
  ·rw [decD_big h10]
   obtain ⟨b, r, e, h1, h2⟩ := ih (u / 10) (by omega) (by omega)
   rw [e]
   exact ⟨b, r ++ [UInt8.ofNat (48 + u % 10)], rfl, h1, h2⟩
end Go.Proofs.YtndmeaoidihikaaGreatDoor

namespace Go.Proofs
open Go.Shelf
def Tryz.laysM171_ren : Go.Shelf.Ren := ⟨fun | 171 => 79 | 243 => 114 | 246 => 141 | 283 => 165 | 284 => 166 | 285 => 167 | 286 => 168 | 129 => 189 | 317 => 188 | 318 => 190 | 319 => 191 | 320 => 192 | 337 => 213 | 338 => 214 | n => n, fun | 3 => 3 | 9 => 9 | 2 => 2 | 4 => 4 | 171 => 198 | 0 => 0 | 53 => 186 | 37 => 151 | 5 => 5 | 173 => 201 | 212 => 222 | 51 => 223 | 20 => 20 | 213 => 224 | 46 => 214 | 232 => 250 | 233 => 251 | n => n, fun | 17 => 1 | 18 => 8 | 19 => 9 | n => n⟩
theorem Tryz.laysM171 : Go.Proofs.LaysM.n171 Tryz.prog Tryz.laysM171_ren := {
 mixed := by kernel_rfl
 f129 := Tryz.func189.trans (congrArg some (by kernel_rfl))
 f171 := Tryz.func79.trans (congrArg some (by kernel_rfl))
 f243 := Tryz.func114.trans (congrArg some (by kernel_rfl))
 f246 := Tryz.func141.trans (congrArg some (by kernel_rfl))
 f283 := Tryz.func165.trans (congrArg some (by kernel_rfl))
 f284 := Tryz.func166.trans (congrArg some (by kernel_rfl))
 f285 := Tryz.func167.trans (congrArg some (by kernel_rfl))
 f286 := Tryz.func168.trans (congrArg some (by kernel_rfl))
 f317 := Tryz.func188.trans (congrArg some (by kernel_rfl))
 f318 := Tryz.func190.trans (congrArg some (by kernel_rfl))
 f319 := Tryz.func191.trans (congrArg some (by kernel_rfl))
 f320 := Tryz.func192.trans (congrArg some (by kernel_rfl))
 f337 := Tryz.func213.trans (congrArg some (by kernel_rfl))
 f338 := Tryz.func214.trans (congrArg some (by kernel_rfl))
 t0 := Tryz.underlying0
 a0 := Tryz.isAgg0
 z0 := Tryz.sizeOf0
 v0 := Tryz.zeroValue0
 t2 := Tryz.underlying2
 a2 := Tryz.isAgg2
 z2 := Tryz.sizeOf2
 v2 := Tryz.zeroValue2
 t3 := Tryz.underlying3
 a3 := Tryz.isAgg3
 z3 := Tryz.sizeOf3
 v3 := Tryz.zeroValue3
 t4 := Tryz.underlying4
 a4 := Tryz.isAgg4
 z4 := Tryz.sizeOf4
 v4 := Tryz.zeroValue4
 t5 := Tryz.underlying5
 a5 := Tryz.isAgg5
 z5 := Tryz.sizeOf5
 v5 := Tryz.zeroValue5
 t9 := Tryz.underlying9
 a9 := Tryz.isAgg9
 z9 := Tryz.sizeOf9
 v9 := Tryz.zeroValue9
 t20 := Tryz.underlying20
 a20 := Tryz.isAgg20
 z20 := Tryz.sizeOf20
 v20 := Tryz.zeroValue20
 t37 := Tryz.underlying151
 a37 := Tryz.isAgg151
 z37 := Tryz.sizeOf151
 v37 := Tryz.zeroValue151
 t46 := Tryz.underlying214
 a46 := Tryz.isAgg214
 z46 := Tryz.sizeOf214
 v46 := Tryz.zeroValue214
 t51 := Tryz.underlying223
 a51 := Tryz.isAgg223
 z51 := Tryz.sizeOf223
 v51 := Tryz.zeroValue223
 t53 := Tryz.underlying186
 a53 := Tryz.isAgg186
 z53 := Tryz.sizeOf186
 v53 := Tryz.zeroValue186
 t171 := Tryz.underlying198
 a171 := Tryz.isAgg198
 z171 := Tryz.sizeOf198
 v171 := Tryz.zeroValue198
 t173 := Tryz.underlying201
 a173 := Tryz.isAgg201
 z173 := Tryz.sizeOf201
 v173 := Tryz.zeroValue201
 t212 := Tryz.underlying222
 a212 := Tryz.isAgg222
 z212 := Tryz.sizeOf222
 v212 := Tryz.zeroValue222
 t213 := Tryz.underlying224
 a213 := Tryz.isAgg224
 z213 := Tryz.sizeOf224
 t232 := Tryz.underlying250
 a232 := Tryz.isAgg250
 z232 := Tryz.sizeOf250
 v232 := Tryz.zeroValue250
 t233 := Tryz.underlying251
 a233 := Tryz.isAgg251
 z233 := Tryz.sizeOf251
 v233 := Tryz.zeroValue251
 g17 := by kernel_rfl
 g18 := by kernel_rfl
 g19 := by kernel_rfl
 i0 := by kernel_rfl
 i2 := by kernel_rfl
 i3 := by kernel_rfl
 i4 := by kernel_rfl
 i5 := by kernel_rfl
 i9 := by kernel_rfl
 i20 := by kernel_rfl
 i37 := by kernel_rfl
 i46 := by kernel_rfl
 i51 := by kernel_rfl
 i53 := by kernel_rfl
 i171 := by kernel_rfl
 i173 := by kernel_rfl
 i212 := by kernel_rfl
 i232 := by kernel_rfl
 i233 := by kernel_rfl
 m17 := by kernel_rfl
 m18 := by kernel_rfl
 m19 := by kernel_rfl }
open Go.RowKit Go.Sort Go.Lib in
/-- strconv.Itoa: "Itoa is equivalent to FormatInt(int64(i), 10).": i's DECIMAL NUMERAL ('Lib.itoa': a '-' where i is negative, then the digits), FOR EVERY int. The world behind the call: the world before it, new blocks behind the heap (the library's 'var a [24]byte'), draws. (LAID: no walk: one application.) -/
theorem Tryz.strconv_Itoa (n : Int) (h0 : -9223372036854775808 ≤ n) (h1 : n ≤ 9223372036854775807) (w : World) (htab : Lib.TabIs Tryz.prog w "internal/strconv.uint64pow10" .u64 Lib.pow10Tab) :
  Calls Tryz.prog 79 #[.int .i64 n] w fun e w' => e = .returned (.string ⟨(Lib.itoa n).toArray⟩) ∧ ∃ k os, w' = grow (w.drewN k) os := Any.strconv_Itoa Tryz.laysM171 n h0 h1 w htab

end Go.Proofs
