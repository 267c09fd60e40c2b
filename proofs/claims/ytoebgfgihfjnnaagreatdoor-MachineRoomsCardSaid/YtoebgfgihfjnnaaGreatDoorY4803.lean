/- Contracts and plain facts that the claim uses (K8b K8). Conditions: as each one states. -/
import Derived.RangeFuncNested
import Derived.RangeFuncBound
import Derived.RangeFuncCalls
import Derived.RangeFuncLeaves
import Derived.RangeFuncFrom
import Derived.Shelf.Abstract
import Derived.Shelf.RegionOpen
import Derived.WalkKit
import Derived.OwnWalkIn
import Derived.TacticsInMore
import Derived.LoopNIn
import Derived.LoopIn
import Derived.Test.YtoebgfgihfjnnaaGreatDoorProg
import Derived.WalkSpells
import Derived.Maps.AppendAt
import Derived.Deep.Quiet
import Derived.Maps.Own
import Derived.Maps.OwnSet
import Derived.Maps.Views
import Derived.WalkLawsBesides
import Derived.Laws.EntriesVeiled
import Derived.Deep.QuietTactic
import Derived.BigQuiet
import Derived.Shelf.Strings.Trim
import Derived.Shelf.Strings.SlTrimAscii
import Derived.Shelf.Strings.Repeat
import Derived.Shelf.Strings.OnBuilder
import Derived.Shelf.Strconv.Itoa1
import Derived.Shelf.Strconv.Itoa3
import Derived.Shelf.LaysM
import Derived.Ground.Names2Prog
import Derived.Lib.OthersKept
import Derived.Deep.RegionHeld3
import Derived.Deep.AppendLies
import Derived.Deep.RegionHeldLaw
import Derived.Deep.RegionLaw
import Derived.StillTail
import Derived.Laws.Tables
import Derived.IntWalk
import Derived.Laws.CopyOwn
import Derived.BigRegion
import Derived.ChangeAlike
import Derived.Shelf.Bits.Mul64
import Derived.Lib.ItoaLen
import Derived.Lib.ItoaMem
import Derived.Sort.LoopGhostIn
import Derived.Maps.RangeWalk
import Derived.Maps.Ext
import Derived.Sort.QuietThIn
import Derived.Deep.LoopGhost
import Derived.Lib.Split
import Derived.Lib.AtoiAll
import Derived.Shelf.Strconv.ErrVarAll
import Derived.Shelf.Strconv.AtoiAll
import Derived.Shelf.Strings.Cut
import Derived.Shelf.Strings.Split
import Derived.Shelf.Strings.SplitShaped
import Derived.Lib.AppendIntMem
import Derived.Lib.SmallJoins
import Derived.LaidSub
import Derived.Lib.LaidTab
import Derived.Lib.AtoiErrMem
import Derived.Stop.LaidErr
import Derived.ReadAgain
import Derived.ChangeSlices
import Derived.OpenShut
import Derived.ProofKit
import Derived.Deep.DeepHandedRow
import Derived.Deep.SlicePairs
import Derived.Test.YtoebgfgihfjnnaaGreatDoorXz01
import Derived.Test.YtoebgfgihfjnnaaGreatDoorXz02
import Derived.Test.YtoebgfgihfjnnaaGreatDoorXz03
import Derived.Test.YtoebgfgihfjnnaaGreatDoorXz04
import Derived.Test.YtoebgfgihfjnnaaGreatDoorXz05
import Derived.Test.YtoebgfgihfjnnaaGreatDoorXz06
import Derived.Test.YtoebgfgihfjnnaaGreatDoorXz07
import Derived.Test.YtoebgfgihfjnnaaGreatDoorXz08
import Derived.Test.YtoebgfgihfjnnaaGreatDoorXz09
import Derived.Test.YtoebgfgihfjnnaaGreatDoorXz10
import Derived.Test.YtoebgfgihfjnnaaGreatDoorXz11
import Derived.Test.YtoebgfgihfjnnaaGreatDoorXz12
import Derived.Test.YtoebgfgihfjnnaaGreatDoorY4801
import Derived.Test.YtoebgfgihfjnnaaGreatDoorY4802
set_option linter.all false

namespace Go.Proofs.YtoebgfgihfjnnaaGreatDoor
open Go.RowKit
set_option maxHeartbeats 8000000
set_option maxRecDepth 100000
theorem mo_good1 (m : MacV) (ad al : Option Addr) (cap cl : Nat) (l : List Int) (w : World) (hR : Ints w ad cap m.sw) (hL : Ints w al cl l) (hI : InI m.gears) (hw : LibW w) (hf : Fits m l 3 8) (hacc : accE m l = 0) (hz : 0 < (freeM m l).length) :
  Calls Tryz.prog 7 #[mV m ad cap, .slice al l.length cl] w fun r w' => r = .returned (.bool true) ∧ Below w.heap.size w w' := by
 have hS0 := (SL.nil w).box (.cells (mC m ad cap) 24)
 have HA := hid awake4_any
 have hlc := hL.le
 have hlm := hL.max
 have he := hf.2.2.2
 have hlk := loadE_zero he
 have hm := hlk.mac
 have hok := hlk.ok
 have hl8 := hf.2.2.1
 have hg3 := hf.2.1
 have hlo := hok.lo
 have hhi := hok.hi
 obtain ⟨N, hN⟩ : ∃ N : Nat, 4 * m.gears = N := ⟨(4 * m.gears).toNat, by omega⟩
 have hN64 : N ≤ 12 := by omega
 have KM : ∀ (a : Option Addr) (c : Nat), ChkM m a c := fun a c w h => CheckMachine_any m a c w h hI
 have hfe : fillE m = 0 := by unfold fillE; rw [if_neg (by simp [hm]), if_neg (by omega)]
 obtain ⟨fa1, fa2⟩ := fill_acc hm
 have hae : accE m (fillM m) = 0 := by unfold accE; rw [if_neg (by simp [fa1]), fa2]; rfl
 have hff := free_fill hm
 have hfl : (fillM m).length ≤ 64 := by
  have := bestF_le m (4 * m.gears).toNat [] 0
  rw [← fillM_best] at this
  simp at this
  omega
 have hcl : (if 4 * m.gears < ((fillM m).length : Int) then (5 : Int) else loadGo m [] (fillM m)) = 0 := by
  have h1 := fa1
  unfold loadE at h1
  rw [if_neg (by simp [hm])] at h1
  exact h1
 have CFI := fun w h => mFill_any m ad cap w h (KM _ _)
 rw [if_pos hfe, hfe] at CFI
 have CFF := fun (b : Option Addr) (d : Nat) w h h2 => mFree_any m ad cap b d (fillM m) w h h2 (CheckLoad_any m ad cap b d _ (KM _ _))
 rw [if_pos hae, hae, hff] at CFF
 have CCL := fun (b : Option Addr) (d : Nat) w h2 => rCheckLoad_any m ad cap b d (fillM m) w h2 hlo hhi
 rw [hcl] at CCL
 have CAF := fun (b : Option Addr) (d : Nat) w h h2 => mAccept_any m ad cap b d (fillM m) w h h2 (CheckLoad_any m ad cap b d _ (KM _ _))
 rw [hae] at CAF
 have hasc := fun (i : Nat) (h0 : 0 < i) (h : i < (fillM m).length) => fill_asc hm h0 h
 have CFR := fun w h h2 => mFree_any m ad cap al cl l w h h2 (CheckLoad_any m ad cap al cl l (KM _ _))
 have CAC := fun w h h2 => mAccept_any m ad cap al cl l w h h2 (CheckLoad_any m ad cap al cl l (KM _ _))
 have HF := hid (fun w h h2 => lfits_ok m ad al cap cl l 3 8 w h h2 hf)
 have hfn := (accE_zero hacc).2
 have hmx := fill_max hlk hfn
 rw [if_pos hacc, hacc] at CFR
 rw [hacc] at CAC
 have hmore : 0 < (freeM m l).length → l.length < (fillM m).length := fun h => free_more hlk hfn (List.length_pos_iff.1 h)
 have hsl : (slotsL m).length = N := by rw [slotsL_len]; omega
 have hfs := fun (k : Nat) (h : k < N) => freeN_succ (m := m) (l := l) (k := k) (by rw [hsl]; exact h)
 have hfa := fun (k : Nat) (h : k < N) => free_at (m := m) (l := l) (k := k) (by rw [hsl]; exact h)
 have hfz := freeN_all m l
 rw [hsl] at hfz
 have hout := fun (k : Nat) (h : apartM m (k : Int) l = true) => apart_out h
 have hfle : ∀ k, k ≤ N → freeN m l k ≤ 64 := fun k hk => by
  unfold freeN
  refine Nat.le_trans (List.length_filter_le _ _) ?_
  rw [List.length_take]; omega
 have CAN := fun (b : Option Addr) (d : Nat) (k : Nat) (hk : k < N) (hs : (k : Int) ∉ l) w h h2 => mAccept_any m ad cap b d (l ++ [(k : Int)]) w h h2 (CheckLoad_any m ad cap b d _ (KM _ _))
 have hac := fun (k : Nat) (hk : k < N) (hs : (k : Int) ∉ l) => acc_snoc hlk hfn (s := (k : Int)) (by omega) (by omega) hs
 obtain ⟨F2, hF2⟩ : ∃ F2, F2 = freeM m l := ⟨_, rfl⟩
 rw [← hF2] at CFR hmore hfz hz
 simp only [← hF2] at hfa
 have HFS := hid hfs; have HFA := hid hfa; have HFZ := hid hfz; have HOUT := hid hout; have HCAN := hid CAN; have HACN := hid hac; have HFLE := hid hfle
 have hwN : IntKind.i64.wrap (4 * m.gears) = (N : Int) := by rw [hN]; exact IntWalk.i64_in _ (by omega)
 obtain ⟨FL, hFL⟩ : ∃ FL, FL = fillM m := ⟨_, rfl⟩
 rw [← hFL] at CFI CFF CCL CAF hfl hmx hmore
 simp only [← hFL] at hasc
 have HMORE := hid hmore
 have HZ := hid hz
 have HFI := hid CFI; have HFF := hid CFF; have HCL := hid CCL; have HAF := hid CAF; have HASC := hid hasc; have HFR := hid CFR; have HAC := hid CAC
 clear CFI CFF CCL CAF hasc CFR CAC hFL hcl hff hae fa1 fa2 hfe hf he KM hlk hok hfs hfa hfz hout CAN hac hfle hmore hfn hsl hF2 hN hz
 go_enter Tryz.func7, Tryz.ntmps7
 go_wp2_with fail
 refine (HA.out _ (hw.below hS0.b)).mono ?_
 rintro e w1 ⟨rfl, b1⟩
 have hS1 := hS0.mono b1
 have q1_m := (hS1.blk 0 rfl).1
 clear hS0
 go_wp2_with (with_reducible refine wpList_ldS (n := 4) (us := mC m ad cap) A_mach kR wU wU (by assumption) wU wU ?_)
 refine (HF.out _ (hR.below hS1.b) (hL.below hS1.b)).mono ?_
 rintro e w2 ⟨rfl, b2⟩
 have hS2 := hS1.mono b2
 have q2_m := (hS2.blk 0 rfl).1
 clear hS1 q1_m
 go_wp2_with (with_reducible refine wpList_ldS (n := 4) (us := mC m ad cap) A_mach kR wU wU (by assumption) wU wU ?_)
 refine (HFI.out _ (hR.below hS2.b)).mono ?_
 rintro e w3 ⟨v3, rfl, ho3, b3⟩
 have hS3 := hS2.call (SL.ofOwn ho3 b3)
 simp only [List.cons_append, List.nil_append] at hS3
 have q3_m := (hS3.blk 1 rfl).1
 clear hS2 q2_m
 clear ho3 b3
 obtain ⟨aF, cF, rfl, _⟩ := hS3.slice 0 rfl
 go_wp2_with (with_reducible refine wpList_ldS (n := 4) (us := mC m ad cap) A_mach kR wU wU (by assumption) wU wU ?_)
 refine (HFF.out aF cF _ (hR.below hS3.b) (hS3.rd 0 rfl)).mono ?_
 rintro e w4 ⟨v4, rfl, ho4, b4⟩
 have hS4 := hS3.call (SL.ofOwn ho4 b4)
 simp only [List.cons_append, List.nil_append] at hS4
 have q4_m := (hS4.blk 2 rfl).1
 clear hS3 q3_m
 clear ho4 b4
 obtain ⟨aE, cE, rfl, _⟩ := hS4.slice 0 rfl
 go_wp2_with (with_reducible refine wpList_ldS (n := 4) (us := mC m ad cap) A_mach kR wU wU (by assumption) wU wU ?_)
 refine (HCL.out aF cF _ (hS4.rd 1 rfl)).mono ?_
 rintro e w5 ⟨rfl, b5⟩
 have hS5 := hS4.mono b5
 have q5_m := (hS5.blk 2 rfl).1
 clear hS4 q4_m
 go_wp2_with (with_reducible refine wpList_ldS (n := 4) (us := mC m ad cap) A_mach kR wU wU (by assumption) wU wU ?_)
 refine (HAF.out aF cF _ (hR.below hS5.b) (hS5.rd 1 rfl)).mono ?_
 rintro e w6 ⟨rfl, b6⟩
 have hS6 := hS5.mono b6
 have q6_m := (hS6.blk 2 rfl).1
 clear hS5 q5_m
 go_wp2_with fail
 have hF9 := (hS6.rd 1 rfl)
 have hb9 := hS6.b
 have hq9 := q6_m
 obtain ⟨wz, hwz⟩ : ∃ wz, wz = w6 := ⟨_, rfl⟩
 rw [← hwz] at hF9 hb9 hq9 ⊢
 clear hS6 q6_m hwz
 have hlt9 : w.heap.size < wz.heap.size := (Array.getElem?_eq_some_iff.1 hq9).1
 go_loopw [9] (fun iv wr => ∃ k : Nat, 1 ≤ k ∧ k ≤ FL.length + 1 ∧ iv = .int .i64 k ∧ Below wz.heap.size wz wr) (fun iv _ => FL.length + 1 - (intOf iv).toNat)
 case atStart => exact ⟨1, by omega, by omega, rfl, Below.refl _ _⟩
 case round =>
  obtain ⟨k, hk1, hk, rfl, hbr⟩ := hrel
  have hFr := hF9.below hbr
  by_cases hlt : k < FL.length
  ·have hxy := HASC.out k (by omega) hlt
   obtain ⟨x, hx⟩ : ∃ x, x = atD 0 FL k := ⟨_, rfl⟩
   obtain ⟨y, hy⟩ : ∃ y, y = atD 0 FL ((k : Int) - 1) := ⟨_, rfl⟩
   rw [← hx, ← hy] at hxy
   have hwk : IntKind.i64.wrap ((k : Int) - 1) = (k : Int) - 1 := IntWalk.i64_in _ (by omega)
   have hd : decide (x ≤ y) = false := decide_eq_false (by omega)
   have HX := hid hx; have HY := hid hy
   clear hx hy hxy
   go_wp2_with fail
   refine wp_region_q kR kR ?_
   repeat (first | (((with_reducible refine wpB_idx2 0 E_ints F_int cInt1 wU (rfl) wU (hFr) oD oD (fun _ => wU) (fun _ => ?_)); (try simp only [Act.put, pA, pB, pC]); (try simp only [cInt])); first | rw [← HX.out] | rw [← HY.out]) |  ((with_reducible refine wpB_load (by first | exact F_int | exact F_u64s) wU wU (by assumption) wU ?_); (try simp only [Act.put, pA, pB, pC])) | ((refine wpQ_oneG ?_ wU (fun w' => ?_) ?_); rotate_left; (go_simp; rfl); (try simp only [Act.put, pA, pB, pC])))
   refine wpQuiet_nil ?_
   intro wy hby
   go_wp2_with fail
   exact ⟨⟨k + 1, by omega, by omega, by go_num, bnext hbr hby⟩, by simp [intOf]; omega⟩
  ·have q1 := (hbr.block _ hlt9).trans hq9
   have hb1 := bnext hb9 hbr
   obtain ⟨we, rfl⟩ : ∃ we, we = wr := ⟨_, rfl⟩
   clear hFr hF9 hbr hq9 hb9 hlt9
   go_wp2_with (with_reducible refine wpList_ldS (n := 4) (us := mC m ad cap) A_mach kR wU wU (by assumption) wU wU ?_)
   refine (HFR.out _ (hR.below hb1) (hL.below hb1)).mono ?_
   rintro e w2 ⟨v2, rfl, ho2, b2⟩
   obtain ⟨a2, c2, rfl, h2, _, _⟩ := ho2.reps
   have hlt1 : w.heap.size < we.heap.size := (Array.getElem?_eq_some_iff.1 q1).1
   have q2 := (b2.block _ hlt1).trans q1
   have hb2 := bnext hb1 b2
   have hlt2 : w.heap.size < w2.heap.size := (Array.getElem?_eq_some_iff.1 q2).1
   clear ho2 q1
   go_wp2_with (with_reducible refine wpList_ldS (n := 4) (us := mC m ad cap) A_mach kR wU wU (by assumption) wU wU ?_)
   refine (HAC.out _ (hR.below hb2) (hL.below hb2)).mono ?_
   rintro e w3 ⟨rfl, b3⟩
   have hb3 := bnext hb2 b3
   have q3 := (b3.block _ hlt2).trans q2
   have h3 := h2.below b3
   clear h2 q2
   have hmr := HMORE.out HZ.out
   have z0 : 0 < F2.length := HZ.out
   have z1 : (0 : Int) < F2.length := by omega
   have z2 : ¬ FL.length ≤ l.length := by omega
   have z3 : ¬ (FL.length : Int) ≤ l.length := by omega
   clear hmr
   go_wp2_with (with_reducible refine wpList_ldB (by first | exact F_int | exact F_u64s) wU wU (by assumption) wU ?_)
   have hlt3 : w.heap.size < w3.heap.size := (Array.getElem?_eq_some_iff.1 q3).1
   go_loopw [116, 13, 14, 121, 16, 12, 17] (fun hv _ _ _ _ av _ wr => ∃ k : Nat, k ≤ N ∧ hv = .int .i64 k ∧ av = .int .i64 (freeN m l k) ∧ Below w3.heap.size w3 wr) (fun hv _ _ _ _ _ _ _ => N - (intOf hv).toNat)
   case atStart => exact ⟨0, by omega, rfl, by simp [freeN], Below.refl _ _⟩
   case round =>
    obtain ⟨k, hk, rfl, rfl, hb4⟩ := hrel
    have q4 := (hb4.block _ hlt3).trans q3
    have h2r := h3.below hb4
    have hRo := hR.below (bnext hb3 hb4)
    have hLo := hL.below (bnext hb3 hb4)
    have hfle := HFLE.out k hk
    obtain ⟨wo, rfl⟩ : ∃ wo, wo = wr := ⟨_, rfl⟩
    have hlt4 : w.heap.size < wo.heap.size := (Array.getElem?_eq_some_iff.1 q4).1
    by_cases hlt : k < N
    ·go_wp2_with fail
     go_loopw [121, 16, 14] (fun jv _ tv wq => ∃ j : Nat, j ≤ l.length ∧ jv = .int .i64 j ∧ tv = .bool (decide ((k : Int) ∈ l.take j)) ∧ Below wo.heap.size wo wq) (fun jv _ _ _ => l.length - (intOf jv).toNat)
     case atStart => exact ⟨0, by omega, rfl, by simp, Below.refl _ _⟩
     case round =>
      obtain ⟨j, hj, rfl, rfl, hbq⟩ := hrel
      have hLq := hLo.below hbq
      by_cases hjt : j < l.length
      ·have hth := take_has (s := (k : Int)) hjt
       obtain ⟨x, hx⟩ : ∃ x, x = atD 0 l j := ⟨_, rfl⟩
       rw [← hx] at hth
       have HX := hid hx
       clear hx
       cases htk : decide ((k : Int) ∈ l.take j)
       ·rw [htk] at hth
        have HTH := hid hth
        clear hth htk
        cases hxs : (x == (k : Int))
        all_goals
         have HXS := hid hxs
         go_wp2_with ((with_reducible refine wpList_idx _ 0 E_ints F_int cInt1 wU wU (hLq) oD oD (fun _ => wU) (fun _ => ?_)); rw [← HX.out])
         exact ⟨⟨j + 1, by omega, by go_num, by rw [HTH.out, HXS.out]; rfl, hbq⟩, by simp [intOf]; omega⟩
       ·rw [htk] at hth
        have HTH := hid hth
        clear hth htk
        go_wp2_with ((with_reducible refine wpList_idx _ 0 E_ints F_int cInt1 wU wU (hLq) oD oD (fun _ => wU) (fun _ => ?_)); rw [← HX.out])
        exact ⟨⟨j + 1, by omega, by go_num, by rw [HTH.out]; rfl, hbq⟩, by simp [intOf]; omega⟩
      ·have hjj : l.take j = l := List.take_of_length_le (by omega)
       rw [hjj]
       clear hLq hjj
       have h5 := h2r.below hbq
       have q5 := (hbq.block _ hlt4).trans q4
       have hlt5 : w.heap.size < wr.heap.size := (Array.getElem?_eq_some_iff.1 q5).1
       have hRr := hRo.below hbq
       have hLr := hLo.below hbq
       have hfa := HFA.out k hlt
       have hfs := HFS.out k hlt
       obtain ⟨n, hn⟩ : ∃ n, n = freeN m l k := ⟨_, rfl⟩
       rw [← hn] at hfa hfs hfle ⊢
       clear hn
       cases htk : decide ((k : Int) ∈ l)
       ·have hnot : (k : Int) ∉ l := of_decide_eq_false htk
        have hcan := HACN.out k hlt hnot
        have CA := fun b d => HCAN.out b d k hlt hnot
        rw [hcan] at CA
        cases hap : apartM m (k : Int) l
        ·rw [hap] at CA hfs hfa
         rw [if_neg (by decide)] at CA
         replace hfs : freeN m l (k + 1) = n := by rw [hfs]; rfl
         replace hfa : ¬ (n < F2.length ∧ atD 0 F2 n = (k : Int)) := fun h => by have h2 := hfa.1 h; cases h2
         have HCA := hid CA; have HFN := hid hfs
         clear CA hfs hcan hnot hap htk
         by_cases hn5 : n < F2.length
         ·have hy : ∃ y, atD 0 F2 n = y ∧ (y == (k : Int)) = false := ⟨_, rfl, by rw [beq_eq_false_iff_ne]; exact fun e => hfa ⟨hn5, e⟩⟩
          obtain ⟨y, hy, hyk⟩ := hy
          have HY := hid hy
          clear hy hfa
          go_wp2_with ((first | (with_reducible refine wpList_idxG 0 E_ints F_int cInt1 wU wU (h5) (rfl) oD oD (fun _ => wU) wU (fun _ => wU) (fun _ => ?_)) | (with_reducible refine wpList_idxN _ 0 E_ints F_int cInt1 wU wU (h5) (rfl) oD oD (fun _ => wU) (fun _ => ?_))); rw [HY.out])
          refine wp_regionK (C := Below (wr).heap.size (wr)) [0, 1, 2, 3, 5, 7, 12] [_, _, _, _, _, _, _] 8 (by simp only [List.map_cons, List.map_nil, List.getElem?_toArray]; rfl) rfl kR kR kR ((Below.refl _ _).drew) ?_
          refine ⟨_, yieldsK_val wU (fun w' => by with_unfolding_all exact rfl), ?_⟩
          go_frame
          refine ⟨.bool true, yieldsK_val wU (fun w' => by first | (go_simp; done) | (go_simp; rfl)), ?_⟩
          go_frame
          refine ⟨_, yieldsK_val wU (fun w' => by with_unfolding_all exact rfl), ?_⟩
          go_frame
          refine ⟨_, yieldsK_blkC (n := 4) A_mach kR (fun V h => (h.block _ hlt5).trans q5) rfl wU wU, ?_⟩
          go_frame
          refine ⟨_, yieldsK_val wU (fun w' => by with_unfolding_all exact rfl), ?_⟩
          go_frame
          refine ⟨_, yieldsK_val wU (fun w' => by with_unfolding_all exact rfl), ?_⟩
          go_frame
          refine ⟨_, yieldsK_val wU (fun w' => by with_unfolding_all exact rfl), ?_⟩
          go_frame
          unfold wpPureK
          have hVd : ({ wr with drawn := wr.drawn + 1 } : World) = wr.drew := rfl
          rw [hVd]
          have hT0 : SL wr.heap.size wr wr.drew [] := (SL.nil wr).drew
          refine wpAnyC_on [4, 8] kR (by simp) ?_
          simp only [List.forall_mem_cons, List.not_mem_nil, false_implies, implies_true, and_true]
          refine ⟨?_, ?_⟩
          ·have hT1 := (hT0).call (SL.ofOwn (own_newN (e := 3) (w := wr.drew) cIntS [] 0 rfl (by decide) #[] rfl (Nat.le_refl _) rfl) (bal (Below.refl _ _) _))
           simp only [List.cons_append, List.nil_append] at hT1
           refine wpOp_value (v := .slice (some ⟨(wr.drew).heap.size, 0, none⟩) 0 0) (w' := (wr.drew).alloc (.cells #[] 3)) (by rw [List.getElem?_toArray]; rfl) wU (by first | (go_simp; done) | (go_simp; rfl) | (simp [execOp, Act.eval, Result.andThen]; done)) ?_
           refine ⟨hT1.b, ?_⟩
           go_frame
           obtain ⟨VhT1, hVhT1⟩ : ∃ V, V = (wr.drew).alloc (.cells #[] 3) := ⟨_, rfl⟩
           obtain ⟨nhT1, hnhT1⟩ : ∃ b, b = (wr.drew).heap.size := ⟨_, rfl⟩
           rw [← hVhT1, ← hnhT1] at hT1
           simp only [← hVhT1, ← hnhT1]
           clear hVhT1 hnhT1
           refine wpAnyC_on [6, 8] kR (by simp) ?_
           simp only [List.forall_mem_cons, List.not_mem_nil, false_implies, implies_true, and_true]
           refine ⟨?_, ?_⟩
           ·refine wpOp_of_list (by rw [List.getElem?_toArray]; rfl) ?_
            refine wpList_unguard wU ?_
            ((with_reducible refine wpList_appL 0 E_ints wU wU (hT1) wU ((hLr.below hT1.b)) (rfl) cIntO (by first | omega | (simp; omega)) (by first | omega | (simp; omega)) ?_); intro v2 w2 hT2)
            rw [List.nil_append] at hT2
            refine ⟨hT2.b, ?_⟩
            go_frame
            refine wpAnyC_on [8] kR (by simp) ?_
            simp only [List.forall_mem_cons, List.not_mem_nil, false_implies, implies_true, and_true]
            have hT3 := (hT2).call (SL.ofOwn (own_newN (e := 3) (w := w2) cIntS [(k : Int)] 1 rfl (by decide) #[.int .i64 (k : Int)] rfl (Nat.le_refl _) rfl) (bal (Below.refl _ _) _))
            simp only [List.cons_append, List.nil_append] at hT3
            refine wpOp_value (v := .slice (some ⟨(w2).heap.size, 0, none⟩) 1 1) (w' := (w2).alloc (.cells #[.int .i64 (k : Int)] 3)) (by rw [List.getElem?_toArray]; rfl) wU (by first | (go_simp; done) | (go_simp; rfl) | (simp [execOp, Act.eval, Result.andThen]; done)) ?_
            refine ⟨hT3.b, ?_⟩
            go_frame
            obtain ⟨VhT3, hVhT3⟩ : ∃ V, V = (w2).alloc (.cells #[.int .i64 (k : Int)] 3) := ⟨_, rfl⟩
            obtain ⟨nhT3, hnhT3⟩ : ∃ b, b = (w2).heap.size := ⟨_, rfl⟩
            rw [← hVhT3, ← hnhT3] at hT3
            simp only [← hVhT3, ← hnhT3]
            clear hVhT3 hnhT3
            refine wpAnyC_on [9] kR (by simp) ?_
            simp only [List.forall_mem_cons, List.not_mem_nil, false_implies, implies_true, and_true]
            refine wpOp_of_list (by rw [List.getElem?_toArray]; rfl) ?_
            refine wpList_unguard wU ?_
            have hRb := hT3.rd 0 rfl
            ((with_reducible refine wpList_appL 1 E_ints wU wU (hT3) wU (hRb) (rfl) cIntO (by first | omega | (simp; omega)) (by first | omega | (simp; omega)) ?_); intro v4 w4 hT4)
            refine ⟨hT4.b, ?_⟩
            go_frame
            obtain ⟨a9, c9, rfl, hr9⟩ := hT4.slice 1 rfl
            refine wpAnyC_on [10] kR (by simp) ?_
            simp only [List.forall_mem_cons, List.not_mem_nil, false_implies, implies_true, and_true]
            refine wpOp_call (f := 50) (args := #[mV m ad cap, .slice a9 (l ++ [(k : Int)]).length c9]) (by rw [List.getElem?_toArray]; rfl) wU (by first | (go_simp; done) | (simp [execOp, Act.eval, Result.andThen]; done) | (simp [execOp, Act.eval, Result.andThen]; rfl)) ?_
            refine (HCA.out a9 c9 _ (hRr.below hT4.b) hr9).mono ?_
            rintro e w8 ⟨rfl, b8⟩
            have t8 := bnext hT4.b b8
            refine ⟨_, rfl, t8, ?_⟩
            go_frame
            refine wpAnyC_rest [11, 13, 14] [_, _, _] rfl (by simp only [List.map_cons, List.map_nil, List.getElem?_toArray]; rfl) kR kR kR (t8) ?_
            repeat (refine ⟨_, .inl ⟨by with_unfolding_all rfl, fun w' _ => by with_unfolding_all exact rfl⟩, ?_⟩; go_frame)
            unfold wpPure
            refine of_wpList_nil (P := Tryz.prog) (ops := #[]) ?_
            clear hT4
            go_wp2_with fail
            exact ⟨⟨k + 1, by omega, by go_num, by rw [HFN.out], bnext hb4 (bnext hbq t8)⟩, by simp [intOf]; omega⟩
           ·have hT2 := (hT1).call (SL.ofOwn (own_newN (e := 3) (w := VhT1) cIntS [(k : Int)] 1 rfl (by decide) #[.int .i64 (k : Int)] rfl (Nat.le_refl _) rfl) (bal (Below.refl _ _) _))
            simp only [List.cons_append, List.nil_append] at hT2
            refine wpOp_value (v := .slice (some ⟨(VhT1).heap.size, 0, none⟩) 1 1) (w' := (VhT1).alloc (.cells #[.int .i64 (k : Int)] 3)) (by rw [List.getElem?_toArray]; rfl) wU (by first | (go_simp; done) | (go_simp; rfl) | (simp [execOp, Act.eval, Result.andThen]; done)) ?_
            refine ⟨hT2.b, ?_⟩
            go_frame
            obtain ⟨VhT2, hVhT2⟩ : ∃ V, V = (VhT1).alloc (.cells #[.int .i64 (k : Int)] 3) := ⟨_, rfl⟩
            obtain ⟨nhT2, hnhT2⟩ : ∃ b, b = (VhT1).heap.size := ⟨_, rfl⟩
            rw [← hVhT2, ← hnhT2] at hT2
            simp only [← hVhT2, ← hnhT2]
            clear hVhT2 hnhT2
            refine wpAnyC_on [6] kR (by simp) ?_
            simp only [List.forall_mem_cons, List.not_mem_nil, false_implies, implies_true, and_true]
            refine wpOp_of_list (by rw [List.getElem?_toArray]; rfl) ?_
            refine wpList_unguard wU ?_
            ((with_reducible refine wpList_appL 1 E_ints wU wU (hT2) wU ((hLr.below hT2.b)) (rfl) cIntO (by first | omega | (simp; omega)) (by first | omega | (simp; omega)) ?_); intro v3 w3 hT3)
            rw [List.nil_append] at hT3
            refine ⟨hT3.b, ?_⟩
            go_frame
            refine wpAnyC_on [9] kR (by simp) ?_
            simp only [List.forall_mem_cons, List.not_mem_nil, false_implies, implies_true, and_true]
            refine wpOp_of_list (by rw [List.getElem?_toArray]; rfl) ?_
            refine wpList_unguard wU ?_
            have hRb := hT3.rd 0 rfl
            ((with_reducible refine wpList_appL 1 E_ints wU wU (hT3) wU (hRb) (rfl) cIntO (by first | omega | (simp; omega)) (by first | omega | (simp; omega)) ?_); intro v4 w4 hT4)
            refine ⟨hT4.b, ?_⟩
            go_frame
            obtain ⟨a9, c9, rfl, hr9⟩ := hT4.slice 1 rfl
            refine wpAnyC_on [10] kR (by simp) ?_
            simp only [List.forall_mem_cons, List.not_mem_nil, false_implies, implies_true, and_true]
            refine wpOp_call (f := 50) (args := #[mV m ad cap, .slice a9 (l ++ [(k : Int)]).length c9]) (by rw [List.getElem?_toArray]; rfl) wU (by first | (go_simp; done) | (simp [execOp, Act.eval, Result.andThen]; done) | (simp [execOp, Act.eval, Result.andThen]; rfl)) ?_
            refine (HCA.out a9 c9 _ (hRr.below hT4.b) hr9).mono ?_
            rintro e w8 ⟨rfl, b8⟩
            have t8 := bnext hT4.b b8
            refine ⟨_, rfl, t8, ?_⟩
            go_frame
            refine wpAnyC_rest [11, 13, 14] [_, _, _] rfl (by simp only [List.map_cons, List.map_nil, List.getElem?_toArray]; rfl) kR kR kR (t8) ?_
            repeat (refine ⟨_, .inl ⟨by with_unfolding_all rfl, fun w' _ => by with_unfolding_all exact rfl⟩, ?_⟩; go_frame)
            unfold wpPure
            refine of_wpList_nil (P := Tryz.prog) (ops := #[]) ?_
            clear hT4
            go_wp2_with fail
            exact ⟨⟨k + 1, by omega, by go_num, by rw [HFN.out], bnext hb4 (bnext hbq t8)⟩, by simp [intOf]; omega⟩
          ·have hT1 := (hT0).call (SL.ofOwn (own_newN (e := 3) (w := wr.drew) cIntS [(k : Int)] 1 rfl (by decide) #[.int .i64 (k : Int)] rfl (Nat.le_refl _) rfl) (bal (Below.refl _ _) _))
           simp only [List.cons_append, List.nil_append] at hT1
           refine wpOp_value (v := .slice (some ⟨(wr.drew).heap.size, 0, none⟩) 1 1) (w' := (wr.drew).alloc (.cells #[.int .i64 (k : Int)] 3)) (by rw [List.getElem?_toArray]; rfl) wU (by first | (go_simp; done) | (go_simp; rfl) | (simp [execOp, Act.eval, Result.andThen]; done)) ?_
           refine ⟨hT1.b, ?_⟩
           go_frame
           obtain ⟨VhT1, hVhT1⟩ : ∃ V, V = (wr.drew).alloc (.cells #[.int .i64 (k : Int)] 3) := ⟨_, rfl⟩
           obtain ⟨nhT1, hnhT1⟩ : ∃ b, b = (wr.drew).heap.size := ⟨_, rfl⟩
           rw [← hVhT1, ← hnhT1] at hT1
           simp only [← hVhT1, ← hnhT1]
           clear hVhT1 hnhT1
           refine wpAnyC_on [4] kR (by simp) ?_
           simp only [List.forall_mem_cons, List.not_mem_nil, false_implies, implies_true, and_true]
           have hT2 := (hT1).call (SL.ofOwn (own_newN (e := 3) (w := VhT1) cIntS [] 0 rfl (by decide) #[] rfl (Nat.le_refl _) rfl) (bal (Below.refl _ _) _))
           simp only [List.cons_append, List.nil_append] at hT2
           refine wpOp_value (v := .slice (some ⟨(VhT1).heap.size, 0, none⟩) 0 0) (w' := (VhT1).alloc (.cells #[] 3)) (by rw [List.getElem?_toArray]; rfl) wU (by first | (go_simp; done) | (go_simp; rfl) | (simp [execOp, Act.eval, Result.andThen]; done)) ?_
           refine ⟨hT2.b, ?_⟩
           go_frame
           obtain ⟨VhT2, hVhT2⟩ : ∃ V, V = (VhT1).alloc (.cells #[] 3) := ⟨_, rfl⟩
           obtain ⟨nhT2, hnhT2⟩ : ∃ b, b = (VhT1).heap.size := ⟨_, rfl⟩
           rw [← hVhT2, ← hnhT2] at hT2
           simp only [← hVhT2, ← hnhT2]
           clear hVhT2 hnhT2
           refine wpAnyC_on [6] kR (by simp) ?_
           simp only [List.forall_mem_cons, List.not_mem_nil, false_implies, implies_true, and_true]
           refine wpOp_of_list (by rw [List.getElem?_toArray]; rfl) ?_
           refine wpList_unguard wU ?_
           ((with_reducible refine wpList_appL 0 E_ints wU wU (hT2) wU ((hLr.below hT2.b)) (rfl) cIntO (by first | omega | (simp; omega)) (by first | omega | (simp; omega)) ?_); intro v3 w3 hT3)
           rw [List.nil_append] at hT3
           refine ⟨hT3.b, ?_⟩
           go_frame
           refine wpAnyC_on [9] kR (by simp) ?_
           simp only [List.forall_mem_cons, List.not_mem_nil, false_implies, implies_true, and_true]
           refine wpOp_of_list (by rw [List.getElem?_toArray]; rfl) ?_
           refine wpList_unguard wU ?_
           have hRb := hT3.rd 1 rfl
           ((with_reducible refine wpList_appL 0 E_ints wU wU (hT3) wU (hRb) (rfl) cIntO (by first | omega | (simp; omega)) (by first | omega | (simp; omega)) ?_); intro v4 w4 hT4)
           refine ⟨hT4.b, ?_⟩
           go_frame
           obtain ⟨a9, c9, rfl, hr9⟩ := hT4.slice 0 rfl
           refine wpAnyC_on [10] kR (by simp) ?_
           simp only [List.forall_mem_cons, List.not_mem_nil, false_implies, implies_true, and_true]
           refine wpOp_call (f := 50) (args := #[mV m ad cap, .slice a9 (l ++ [(k : Int)]).length c9]) (by rw [List.getElem?_toArray]; rfl) wU (by first | (go_simp; done) | (simp [execOp, Act.eval, Result.andThen]; done) | (simp [execOp, Act.eval, Result.andThen]; rfl)) ?_
           refine (HCA.out a9 c9 _ (hRr.below hT4.b) hr9).mono ?_
           rintro e w8 ⟨rfl, b8⟩
           have t8 := bnext hT4.b b8
           refine ⟨_, rfl, t8, ?_⟩
           go_frame
           refine wpAnyC_rest [11, 13, 14] [_, _, _] rfl (by simp only [List.map_cons, List.map_nil, List.getElem?_toArray]; rfl) kR kR kR (t8) ?_
           repeat (refine ⟨_, .inl ⟨by with_unfolding_all rfl, fun w' _ => by with_unfolding_all exact rfl⟩, ?_⟩; go_frame)
           unfold wpPure
           refine of_wpList_nil (P := Tryz.prog) (ops := #[]) ?_
           clear hT4
           go_wp2_with fail
           exact ⟨⟨k + 1, by omega, by go_num, by rw [HFN.out], bnext hb4 (bnext hbq t8)⟩, by simp [intOf]; omega⟩
         ·clear hfa
          go_wp2_with fail
          refine wp_regionK (C := Below (wr).heap.size (wr)) [0, 1, 2, 3, 5, 7, 12] [_, _, _, _, _, _, _] 8 (by simp only [List.map_cons, List.map_nil, List.getElem?_toArray]; rfl) rfl kR kR kR ((Below.refl _ _).drew) ?_
          refine ⟨_, yieldsK_val wU (fun w' => by with_unfolding_all exact rfl), ?_⟩
          go_frame
          refine ⟨.bool true, yieldsK_val wU (fun w' => by first | (go_simp; done) | (go_simp; rfl)), ?_⟩
          go_frame
          refine ⟨_, yieldsK_val wU (fun w' => by with_unfolding_all exact rfl), ?_⟩
          go_frame
          refine ⟨_, yieldsK_blkC (n := 4) A_mach kR (fun V h => (h.block _ hlt5).trans q5) rfl wU wU, ?_⟩
          go_frame
          refine ⟨_, yieldsK_val wU (fun w' => by with_unfolding_all exact rfl), ?_⟩
          go_frame
          refine ⟨_, yieldsK_val wU (fun w' => by with_unfolding_all exact rfl), ?_⟩
          go_frame
          refine ⟨_, yieldsK_val wU (fun w' => by with_unfolding_all exact rfl), ?_⟩
          go_frame
          unfold wpPureK
          have hVd : ({ wr with drawn := wr.drawn + 1 } : World) = wr.drew := rfl
          rw [hVd]
          have hT0 : SL wr.heap.size wr wr.drew [] := (SL.nil wr).drew
          refine wpAnyC_on [4, 8] kR (by simp) ?_
          simp only [List.forall_mem_cons, List.not_mem_nil, false_implies, implies_true, and_true]
          refine ⟨?_, ?_⟩
          ·have hT1 := (hT0).call (SL.ofOwn (own_newN (e := 3) (w := wr.drew) cIntS [] 0 rfl (by decide) #[] rfl (Nat.le_refl _) rfl) (bal (Below.refl _ _) _))
           simp only [List.cons_append, List.nil_append] at hT1
           refine wpOp_value (v := .slice (some ⟨(wr.drew).heap.size, 0, none⟩) 0 0) (w' := (wr.drew).alloc (.cells #[] 3)) (by rw [List.getElem?_toArray]; rfl) wU (by first | (go_simp; done) | (go_simp; rfl) | (simp [execOp, Act.eval, Result.andThen]; done)) ?_
           refine ⟨hT1.b, ?_⟩
           go_frame
           obtain ⟨VhT1, hVhT1⟩ : ∃ V, V = (wr.drew).alloc (.cells #[] 3) := ⟨_, rfl⟩
           obtain ⟨nhT1, hnhT1⟩ : ∃ b, b = (wr.drew).heap.size := ⟨_, rfl⟩
           rw [← hVhT1, ← hnhT1] at hT1
           simp only [← hVhT1, ← hnhT1]
           clear hVhT1 hnhT1
           refine wpAnyC_on [6, 8] kR (by simp) ?_
           simp only [List.forall_mem_cons, List.not_mem_nil, false_implies, implies_true, and_true]
           refine ⟨?_, ?_⟩
           ·refine wpOp_of_list (by rw [List.getElem?_toArray]; rfl) ?_
            refine wpList_unguard wU ?_
            ((with_reducible refine wpList_appL 0 E_ints wU wU (hT1) wU ((hLr.below hT1.b)) (rfl) cIntO (by first | omega | (simp; omega)) (by first | omega | (simp; omega)) ?_); intro v2 w2 hT2)
            rw [List.nil_append] at hT2
            refine ⟨hT2.b, ?_⟩
            go_frame
            refine wpAnyC_on [8] kR (by simp) ?_
            simp only [List.forall_mem_cons, List.not_mem_nil, false_implies, implies_true, and_true]
            have hT3 := (hT2).call (SL.ofOwn (own_newN (e := 3) (w := w2) cIntS [(k : Int)] 1 rfl (by decide) #[.int .i64 (k : Int)] rfl (Nat.le_refl _) rfl) (bal (Below.refl _ _) _))
            simp only [List.cons_append, List.nil_append] at hT3
            refine wpOp_value (v := .slice (some ⟨(w2).heap.size, 0, none⟩) 1 1) (w' := (w2).alloc (.cells #[.int .i64 (k : Int)] 3)) (by rw [List.getElem?_toArray]; rfl) wU (by first | (go_simp; done) | (go_simp; rfl) | (simp [execOp, Act.eval, Result.andThen]; done)) ?_
            refine ⟨hT3.b, ?_⟩
            go_frame
            obtain ⟨VhT3, hVhT3⟩ : ∃ V, V = (w2).alloc (.cells #[.int .i64 (k : Int)] 3) := ⟨_, rfl⟩
            obtain ⟨nhT3, hnhT3⟩ : ∃ b, b = (w2).heap.size := ⟨_, rfl⟩
            rw [← hVhT3, ← hnhT3] at hT3
            simp only [← hVhT3, ← hnhT3]
            clear hVhT3 hnhT3
            refine wpAnyC_on [9] kR (by simp) ?_
            simp only [List.forall_mem_cons, List.not_mem_nil, false_implies, implies_true, and_true]
            refine wpOp_of_list (by rw [List.getElem?_toArray]; rfl) ?_
            refine wpList_unguard wU ?_
            have hRb := hT3.rd 0 rfl
            ((with_reducible refine wpList_appL 1 E_ints wU wU (hT3) wU (hRb) (rfl) cIntO (by first | omega | (simp; omega)) (by first | omega | (simp; omega)) ?_); intro v4 w4 hT4)
            refine ⟨hT4.b, ?_⟩
            go_frame
            obtain ⟨a9, c9, rfl, hr9⟩ := hT4.slice 1 rfl
            refine wpAnyC_on [10] kR (by simp) ?_
            simp only [List.forall_mem_cons, List.not_mem_nil, false_implies, implies_true, and_true]
            refine wpOp_call (f := 50) (args := #[mV m ad cap, .slice a9 (l ++ [(k : Int)]).length c9]) (by rw [List.getElem?_toArray]; rfl) wU (by first | (go_simp; done) | (simp [execOp, Act.eval, Result.andThen]; done) | (simp [execOp, Act.eval, Result.andThen]; rfl)) ?_
            refine (HCA.out a9 c9 _ (hRr.below hT4.b) hr9).mono ?_
            rintro e w8 ⟨rfl, b8⟩
            have t8 := bnext hT4.b b8
            refine ⟨_, rfl, t8, ?_⟩
            go_frame
            refine wpAnyC_rest [11, 13, 14] [_, _, _] rfl (by simp only [List.map_cons, List.map_nil, List.getElem?_toArray]; rfl) kR kR kR (t8) ?_
            repeat (refine ⟨_, .inl ⟨by with_unfolding_all rfl, fun w' _ => by with_unfolding_all exact rfl⟩, ?_⟩; go_frame)
            unfold wpPure
            refine of_wpList_nil (P := Tryz.prog) (ops := #[]) ?_
            clear hT4
            go_wp2_with fail
            exact ⟨⟨k + 1, by omega, by go_num, by rw [HFN.out], bnext hb4 (bnext hbq t8)⟩, by simp [intOf]; omega⟩
           ·have hT2 := (hT1).call (SL.ofOwn (own_newN (e := 3) (w := VhT1) cIntS [(k : Int)] 1 rfl (by decide) #[.int .i64 (k : Int)] rfl (Nat.le_refl _) rfl) (bal (Below.refl _ _) _))
            simp only [List.cons_append, List.nil_append] at hT2
            refine wpOp_value (v := .slice (some ⟨(VhT1).heap.size, 0, none⟩) 1 1) (w' := (VhT1).alloc (.cells #[.int .i64 (k : Int)] 3)) (by rw [List.getElem?_toArray]; rfl) wU (by first | (go_simp; done) | (go_simp; rfl) | (simp [execOp, Act.eval, Result.andThen]; done)) ?_
            refine ⟨hT2.b, ?_⟩
            go_frame
            obtain ⟨VhT2, hVhT2⟩ : ∃ V, V = (VhT1).alloc (.cells #[.int .i64 (k : Int)] 3) := ⟨_, rfl⟩
            obtain ⟨nhT2, hnhT2⟩ : ∃ b, b = (VhT1).heap.size := ⟨_, rfl⟩
            rw [← hVhT2, ← hnhT2] at hT2
            simp only [← hVhT2, ← hnhT2]
            clear hVhT2 hnhT2
            refine wpAnyC_on [6] kR (by simp) ?_
            simp only [List.forall_mem_cons, List.not_mem_nil, false_implies, implies_true, and_true]
            refine wpOp_of_list (by rw [List.getElem?_toArray]; rfl) ?_
            refine wpList_unguard wU ?_
            ((with_reducible refine wpList_appL 1 E_ints wU wU (hT2) wU ((hLr.below hT2.b)) (rfl) cIntO (by first | omega | (simp; omega)) (by first | omega | (simp; omega)) ?_); intro v3 w3 hT3)
            rw [List.nil_append] at hT3
            refine ⟨hT3.b, ?_⟩
            go_frame
            refine wpAnyC_on [9] kR (by simp) ?_
            simp only [List.forall_mem_cons, List.not_mem_nil, false_implies, implies_true, and_true]
            refine wpOp_of_list (by rw [List.getElem?_toArray]; rfl) ?_
            refine wpList_unguard wU ?_
            have hRb := hT3.rd 0 rfl
            ((with_reducible refine wpList_appL 1 E_ints wU wU (hT3) wU (hRb) (rfl) cIntO (by first | omega | (simp; omega)) (by first | omega | (simp; omega)) ?_); intro v4 w4 hT4)
            refine ⟨hT4.b, ?_⟩
            go_frame
            obtain ⟨a9, c9, rfl, hr9⟩ := hT4.slice 1 rfl
            refine wpAnyC_on [10] kR (by simp) ?_
            simp only [List.forall_mem_cons, List.not_mem_nil, false_implies, implies_true, and_true]
            refine wpOp_call (f := 50) (args := #[mV m ad cap, .slice a9 (l ++ [(k : Int)]).length c9]) (by rw [List.getElem?_toArray]; rfl) wU (by first | (go_simp; done) | (simp [execOp, Act.eval, Result.andThen]; done) | (simp [execOp, Act.eval, Result.andThen]; rfl)) ?_
            refine (HCA.out a9 c9 _ (hRr.below hT4.b) hr9).mono ?_
            rintro e w8 ⟨rfl, b8⟩
            have t8 := bnext hT4.b b8
            refine ⟨_, rfl, t8, ?_⟩
            go_frame
            refine wpAnyC_rest [11, 13, 14] [_, _, _] rfl (by simp only [List.map_cons, List.map_nil, List.getElem?_toArray]; rfl) kR kR kR (t8) ?_
            repeat (refine ⟨_, .inl ⟨by with_unfolding_all rfl, fun w' _ => by with_unfolding_all exact rfl⟩, ?_⟩; go_frame)
            unfold wpPure
            refine of_wpList_nil (P := Tryz.prog) (ops := #[]) ?_
            clear hT4
            go_wp2_with fail
            exact ⟨⟨k + 1, by omega, by go_num, by rw [HFN.out], bnext hb4 (bnext hbq t8)⟩, by simp [intOf]; omega⟩
          ·have hT1 := (hT0).call (SL.ofOwn (own_newN (e := 3) (w := wr.drew) cIntS [(k : Int)] 1 rfl (by decide) #[.int .i64 (k : Int)] rfl (Nat.le_refl _) rfl) (bal (Below.refl _ _) _))
           simp only [List.cons_append, List.nil_append] at hT1
           refine wpOp_value (v := .slice (some ⟨(wr.drew).heap.size, 0, none⟩) 1 1) (w' := (wr.drew).alloc (.cells #[.int .i64 (k : Int)] 3)) (by rw [List.getElem?_toArray]; rfl) wU (by first | (go_simp; done) | (go_simp; rfl) | (simp [execOp, Act.eval, Result.andThen]; done)) ?_
           refine ⟨hT1.b, ?_⟩
           go_frame
           obtain ⟨VhT1, hVhT1⟩ : ∃ V, V = (wr.drew).alloc (.cells #[.int .i64 (k : Int)] 3) := ⟨_, rfl⟩
           obtain ⟨nhT1, hnhT1⟩ : ∃ b, b = (wr.drew).heap.size := ⟨_, rfl⟩
           rw [← hVhT1, ← hnhT1] at hT1
           simp only [← hVhT1, ← hnhT1]
           clear hVhT1 hnhT1
           refine wpAnyC_on [4] kR (by simp) ?_
           simp only [List.forall_mem_cons, List.not_mem_nil, false_implies, implies_true, and_true]
           have hT2 := (hT1).call (SL.ofOwn (own_newN (e := 3) (w := VhT1) cIntS [] 0 rfl (by decide) #[] rfl (Nat.le_refl _) rfl) (bal (Below.refl _ _) _))
           simp only [List.cons_append, List.nil_append] at hT2
           refine wpOp_value (v := .slice (some ⟨(VhT1).heap.size, 0, none⟩) 0 0) (w' := (VhT1).alloc (.cells #[] 3)) (by rw [List.getElem?_toArray]; rfl) wU (by first | (go_simp; done) | (go_simp; rfl) | (simp [execOp, Act.eval, Result.andThen]; done)) ?_
           refine ⟨hT2.b, ?_⟩
           go_frame
           obtain ⟨VhT2, hVhT2⟩ : ∃ V, V = (VhT1).alloc (.cells #[] 3) := ⟨_, rfl⟩
           obtain ⟨nhT2, hnhT2⟩ : ∃ b, b = (VhT1).heap.size := ⟨_, rfl⟩
           rw [← hVhT2, ← hnhT2] at hT2
           simp only [← hVhT2, ← hnhT2]
           clear hVhT2 hnhT2
           refine wpAnyC_on [6] kR (by simp) ?_
           simp only [List.forall_mem_cons, List.not_mem_nil, false_implies, implies_true, and_true]
           refine wpOp_of_list (by rw [List.getElem?_toArray]; rfl) ?_
           refine wpList_unguard wU ?_
           ((with_reducible refine wpList_appL 0 E_ints wU wU (hT2) wU ((hLr.below hT2.b)) (rfl) cIntO (by first | omega | (simp; omega)) (by first | omega | (simp; omega)) ?_); intro v3 w3 hT3)
           rw [List.nil_append] at hT3
           refine ⟨hT3.b, ?_⟩
           go_frame
           refine wpAnyC_on [9] kR (by simp) ?_
           simp only [List.forall_mem_cons, List.not_mem_nil, false_implies, implies_true, and_true]
           refine wpOp_of_list (by rw [List.getElem?_toArray]; rfl) ?_
           refine wpList_unguard wU ?_
           have hRb := hT3.rd 1 rfl
           ((with_reducible refine wpList_appL 0 E_ints wU wU (hT3) wU (hRb) (rfl) cIntO (by first | omega | (simp; omega)) (by first | omega | (simp; omega)) ?_); intro v4 w4 hT4)
           refine ⟨hT4.b, ?_⟩
           go_frame
           obtain ⟨a9, c9, rfl, hr9⟩ := hT4.slice 0 rfl
           refine wpAnyC_on [10] kR (by simp) ?_
           simp only [List.forall_mem_cons, List.not_mem_nil, false_implies, implies_true, and_true]
           refine wpOp_call (f := 50) (args := #[mV m ad cap, .slice a9 (l ++ [(k : Int)]).length c9]) (by rw [List.getElem?_toArray]; rfl) wU (by first | (go_simp; done) | (simp [execOp, Act.eval, Result.andThen]; done) | (simp [execOp, Act.eval, Result.andThen]; rfl)) ?_
           refine (HCA.out a9 c9 _ (hRr.below hT4.b) hr9).mono ?_
           rintro e w8 ⟨rfl, b8⟩
           have t8 := bnext hT4.b b8
           refine ⟨_, rfl, t8, ?_⟩
           go_frame
           refine wpAnyC_rest [11, 13, 14] [_, _, _] rfl (by simp only [List.map_cons, List.map_nil, List.getElem?_toArray]; rfl) kR kR kR (t8) ?_
           repeat (refine ⟨_, .inl ⟨by with_unfolding_all rfl, fun w' _ => by with_unfolding_all exact rfl⟩, ?_⟩; go_frame)
           unfold wpPure
           refine of_wpList_nil (P := Tryz.prog) (ops := #[]) ?_
           clear hT4
           go_wp2_with fail
           exact ⟨⟨k + 1, by omega, by go_num, by rw [HFN.out], bnext hb4 (bnext hbq t8)⟩, by simp [intOf]; omega⟩
        ·rw [hap] at CA hfs hfa
         rw [if_pos rfl] at CA
         replace hfs : freeN m l (k + 1) = n + 1 := by rw [hfs]; rfl
         have hfa := hfa.2 rfl
         have HCA := hid CA; have HFN := hid hfs
         clear CA hfs hcan hnot hap htk
         obtain ⟨hn5, hy⟩ := hfa
         have HY := hid hy
         clear hy
         go_wp2_with ((first | (with_reducible refine wpList_idxG 0 E_ints F_int cInt1 wU wU (h5) (rfl) oD oD (fun _ => wU) wU (fun _ => wU) (fun _ => ?_)) | (with_reducible refine wpList_idxN _ 0 E_ints F_int cInt1 wU wU (h5) (rfl) oD oD (fun _ => wU) (fun _ => ?_))); rw [HY.out])
         refine wp_regionK (C := Below (wr).heap.size (wr)) [0, 1, 2, 3, 5, 7, 12] [_, _, _, _, _, _, _] 8 (by simp only [List.map_cons, List.map_nil, List.getElem?_toArray]; rfl) rfl kR kR kR ((Below.refl _ _).drew) ?_
         refine ⟨_, yieldsK_val wU (fun w' => by with_unfolding_all exact rfl), ?_⟩
         go_frame
         refine ⟨.bool true, yieldsK_val wU (fun w' => by first | (go_simp; done) | (go_simp; rfl)), ?_⟩
         go_frame
         refine ⟨_, yieldsK_val wU (fun w' => by with_unfolding_all exact rfl), ?_⟩
         go_frame
         refine ⟨_, yieldsK_blkC (n := 4) A_mach kR (fun V h => (h.block _ hlt5).trans q5) rfl wU wU, ?_⟩
         go_frame
         refine ⟨_, yieldsK_val wU (fun w' => by with_unfolding_all exact rfl), ?_⟩
         go_frame
         refine ⟨_, yieldsK_val wU (fun w' => by with_unfolding_all exact rfl), ?_⟩
         go_frame
         refine ⟨_, yieldsK_val wU (fun w' => by with_unfolding_all exact rfl), ?_⟩
         go_frame
         unfold wpPureK
         have hVd : ({ wr with drawn := wr.drawn + 1 } : World) = wr.drew := rfl
         rw [hVd]
         have hT0 : SL wr.heap.size wr wr.drew [] := (SL.nil wr).drew
         refine wpAnyC_on [4, 8] kR (by simp) ?_
         simp only [List.forall_mem_cons, List.not_mem_nil, false_implies, implies_true, and_true]
         refine ⟨?_, ?_⟩
         ·have hT1 := (hT0).call (SL.ofOwn (own_newN (e := 3) (w := wr.drew) cIntS [] 0 rfl (by decide) #[] rfl (Nat.le_refl _) rfl) (bal (Below.refl _ _) _))
          simp only [List.cons_append, List.nil_append] at hT1
          refine wpOp_value (v := .slice (some ⟨(wr.drew).heap.size, 0, none⟩) 0 0) (w' := (wr.drew).alloc (.cells #[] 3)) (by rw [List.getElem?_toArray]; rfl) wU (by first | (go_simp; done) | (go_simp; rfl) | (simp [execOp, Act.eval, Result.andThen]; done)) ?_
          refine ⟨hT1.b, ?_⟩
          go_frame
          obtain ⟨VhT1, hVhT1⟩ : ∃ V, V = (wr.drew).alloc (.cells #[] 3) := ⟨_, rfl⟩
          obtain ⟨nhT1, hnhT1⟩ : ∃ b, b = (wr.drew).heap.size := ⟨_, rfl⟩
          rw [← hVhT1, ← hnhT1] at hT1
          simp only [← hVhT1, ← hnhT1]
          clear hVhT1 hnhT1
          refine wpAnyC_on [6, 8] kR (by simp) ?_
          simp only [List.forall_mem_cons, List.not_mem_nil, false_implies, implies_true, and_true]
          refine ⟨?_, ?_⟩
          ·refine wpOp_of_list (by rw [List.getElem?_toArray]; rfl) ?_
           refine wpList_unguard wU ?_
           ((with_reducible refine wpList_appL 0 E_ints wU wU (hT1) wU ((hLr.below hT1.b)) (rfl) cIntO (by first | omega | (simp; omega)) (by first | omega | (simp; omega)) ?_); intro v2 w2 hT2)
           rw [List.nil_append] at hT2
           refine ⟨hT2.b, ?_⟩
           go_frame
           refine wpAnyC_on [8] kR (by simp) ?_
           simp only [List.forall_mem_cons, List.not_mem_nil, false_implies, implies_true, and_true]
           have hT3 := (hT2).call (SL.ofOwn (own_newN (e := 3) (w := w2) cIntS [(k : Int)] 1 rfl (by decide) #[.int .i64 (k : Int)] rfl (Nat.le_refl _) rfl) (bal (Below.refl _ _) _))
           simp only [List.cons_append, List.nil_append] at hT3
           refine wpOp_value (v := .slice (some ⟨(w2).heap.size, 0, none⟩) 1 1) (w' := (w2).alloc (.cells #[.int .i64 (k : Int)] 3)) (by rw [List.getElem?_toArray]; rfl) wU (by first | (go_simp; done) | (go_simp; rfl) | (simp [execOp, Act.eval, Result.andThen]; done)) ?_
           refine ⟨hT3.b, ?_⟩
           go_frame
           obtain ⟨VhT3, hVhT3⟩ : ∃ V, V = (w2).alloc (.cells #[.int .i64 (k : Int)] 3) := ⟨_, rfl⟩
           obtain ⟨nhT3, hnhT3⟩ : ∃ b, b = (w2).heap.size := ⟨_, rfl⟩
           rw [← hVhT3, ← hnhT3] at hT3
           simp only [← hVhT3, ← hnhT3]
           clear hVhT3 hnhT3
           refine wpAnyC_on [9] kR (by simp) ?_
           simp only [List.forall_mem_cons, List.not_mem_nil, false_implies, implies_true, and_true]
           refine wpOp_of_list (by rw [List.getElem?_toArray]; rfl) ?_
           refine wpList_unguard wU ?_
           have hRb := hT3.rd 0 rfl
           ((with_reducible refine wpList_appL 1 E_ints wU wU (hT3) wU (hRb) (rfl) cIntO (by first | omega | (simp; omega)) (by first | omega | (simp; omega)) ?_); intro v4 w4 hT4)
           refine ⟨hT4.b, ?_⟩
           go_frame
           obtain ⟨a9, c9, rfl, hr9⟩ := hT4.slice 1 rfl
           refine wpAnyC_on [10] kR (by simp) ?_
           simp only [List.forall_mem_cons, List.not_mem_nil, false_implies, implies_true, and_true]
           refine wpOp_call (f := 50) (args := #[mV m ad cap, .slice a9 (l ++ [(k : Int)]).length c9]) (by rw [List.getElem?_toArray]; rfl) wU (by first | (go_simp; done) | (simp [execOp, Act.eval, Result.andThen]; done) | (simp [execOp, Act.eval, Result.andThen]; rfl)) ?_
           refine (HCA.out a9 c9 _ (hRr.below hT4.b) hr9).mono ?_
           rintro e w8 ⟨rfl, b8⟩
           have t8 := bnext hT4.b b8
           refine ⟨_, rfl, t8, ?_⟩
           go_frame
           refine wpAnyC_rest [11, 13, 14] [_, _, _] rfl (by simp only [List.map_cons, List.map_nil, List.getElem?_toArray]; rfl) kR kR kR (t8) ?_
           repeat (refine ⟨_, .inl ⟨by with_unfolding_all rfl, fun w' _ => by with_unfolding_all exact rfl⟩, ?_⟩; go_frame)
           unfold wpPure
           refine of_wpList_nil (P := Tryz.prog) (ops := #[]) ?_
           clear hT4
           go_wp2_with fail
           exact ⟨⟨k + 1, by omega, by go_num, by rw [HFN.out]; try go_num, bnext hb4 (bnext hbq t8)⟩, by simp [intOf]; omega⟩
          ·have hT2 := (hT1).call (SL.ofOwn (own_newN (e := 3) (w := VhT1) cIntS [(k : Int)] 1 rfl (by decide) #[.int .i64 (k : Int)] rfl (Nat.le_refl _) rfl) (bal (Below.refl _ _) _))
           simp only [List.cons_append, List.nil_append] at hT2
           refine wpOp_value (v := .slice (some ⟨(VhT1).heap.size, 0, none⟩) 1 1) (w' := (VhT1).alloc (.cells #[.int .i64 (k : Int)] 3)) (by rw [List.getElem?_toArray]; rfl) wU (by first | (go_simp; done) | (go_simp; rfl) | (simp [execOp, Act.eval, Result.andThen]; done)) ?_
           refine ⟨hT2.b, ?_⟩
           go_frame
           obtain ⟨VhT2, hVhT2⟩ : ∃ V, V = (VhT1).alloc (.cells #[.int .i64 (k : Int)] 3) := ⟨_, rfl⟩
           obtain ⟨nhT2, hnhT2⟩ : ∃ b, b = (VhT1).heap.size := ⟨_, rfl⟩
           rw [← hVhT2, ← hnhT2] at hT2
           simp only [← hVhT2, ← hnhT2]
           clear hVhT2 hnhT2
           refine wpAnyC_on [6] kR (by simp) ?_
           simp only [List.forall_mem_cons, List.not_mem_nil, false_implies, implies_true, and_true]
           refine wpOp_of_list (by rw [List.getElem?_toArray]; rfl) ?_
           refine wpList_unguard wU ?_
           ((with_reducible refine wpList_appL 1 E_ints wU wU (hT2) wU ((hLr.below hT2.b)) (rfl) cIntO (by first | omega | (simp; omega)) (by first | omega | (simp; omega)) ?_); intro v3 w3 hT3)
           rw [List.nil_append] at hT3
           refine ⟨hT3.b, ?_⟩
           go_frame
           refine wpAnyC_on [9] kR (by simp) ?_
           simp only [List.forall_mem_cons, List.not_mem_nil, false_implies, implies_true, and_true]
           refine wpOp_of_list (by rw [List.getElem?_toArray]; rfl) ?_
           refine wpList_unguard wU ?_
           have hRb := hT3.rd 0 rfl
           ((with_reducible refine wpList_appL 1 E_ints wU wU (hT3) wU (hRb) (rfl) cIntO (by first | omega | (simp; omega)) (by first | omega | (simp; omega)) ?_); intro v4 w4 hT4)
           refine ⟨hT4.b, ?_⟩
           go_frame
           obtain ⟨a9, c9, rfl, hr9⟩ := hT4.slice 1 rfl
           refine wpAnyC_on [10] kR (by simp) ?_
           simp only [List.forall_mem_cons, List.not_mem_nil, false_implies, implies_true, and_true]
           refine wpOp_call (f := 50) (args := #[mV m ad cap, .slice a9 (l ++ [(k : Int)]).length c9]) (by rw [List.getElem?_toArray]; rfl) wU (by first | (go_simp; done) | (simp [execOp, Act.eval, Result.andThen]; done) | (simp [execOp, Act.eval, Result.andThen]; rfl)) ?_
           refine (HCA.out a9 c9 _ (hRr.below hT4.b) hr9).mono ?_
           rintro e w8 ⟨rfl, b8⟩
           have t8 := bnext hT4.b b8
           refine ⟨_, rfl, t8, ?_⟩
           go_frame
           refine wpAnyC_rest [11, 13, 14] [_, _, _] rfl (by simp only [List.map_cons, List.map_nil, List.getElem?_toArray]; rfl) kR kR kR (t8) ?_
           repeat (refine ⟨_, .inl ⟨by with_unfolding_all rfl, fun w' _ => by with_unfolding_all exact rfl⟩, ?_⟩; go_frame)
           unfold wpPure
           refine of_wpList_nil (P := Tryz.prog) (ops := #[]) ?_
           clear hT4
           go_wp2_with fail
           exact ⟨⟨k + 1, by omega, by go_num, by rw [HFN.out]; try go_num, bnext hb4 (bnext hbq t8)⟩, by simp [intOf]; omega⟩
         ·have hT1 := (hT0).call (SL.ofOwn (own_newN (e := 3) (w := wr.drew) cIntS [(k : Int)] 1 rfl (by decide) #[.int .i64 (k : Int)] rfl (Nat.le_refl _) rfl) (bal (Below.refl _ _) _))
          simp only [List.cons_append, List.nil_append] at hT1
          refine wpOp_value (v := .slice (some ⟨(wr.drew).heap.size, 0, none⟩) 1 1) (w' := (wr.drew).alloc (.cells #[.int .i64 (k : Int)] 3)) (by rw [List.getElem?_toArray]; rfl) wU (by first | (go_simp; done) | (go_simp; rfl) | (simp [execOp, Act.eval, Result.andThen]; done)) ?_
          refine ⟨hT1.b, ?_⟩
          go_frame
          obtain ⟨VhT1, hVhT1⟩ : ∃ V, V = (wr.drew).alloc (.cells #[.int .i64 (k : Int)] 3) := ⟨_, rfl⟩
          obtain ⟨nhT1, hnhT1⟩ : ∃ b, b = (wr.drew).heap.size := ⟨_, rfl⟩
          rw [← hVhT1, ← hnhT1] at hT1
          simp only [← hVhT1, ← hnhT1]
          clear hVhT1 hnhT1
          refine wpAnyC_on [4] kR (by simp) ?_
          simp only [List.forall_mem_cons, List.not_mem_nil, false_implies, implies_true, and_true]
          have hT2 := (hT1).call (SL.ofOwn (own_newN (e := 3) (w := VhT1) cIntS [] 0 rfl (by decide) #[] rfl (Nat.le_refl _) rfl) (bal (Below.refl _ _) _))
          simp only [List.cons_append, List.nil_append] at hT2
          refine wpOp_value (v := .slice (some ⟨(VhT1).heap.size, 0, none⟩) 0 0) (w' := (VhT1).alloc (.cells #[] 3)) (by rw [List.getElem?_toArray]; rfl) wU (by first | (go_simp; done) | (go_simp; rfl) | (simp [execOp, Act.eval, Result.andThen]; done)) ?_
          refine ⟨hT2.b, ?_⟩
          go_frame
          obtain ⟨VhT2, hVhT2⟩ : ∃ V, V = (VhT1).alloc (.cells #[] 3) := ⟨_, rfl⟩
          obtain ⟨nhT2, hnhT2⟩ : ∃ b, b = (VhT1).heap.size := ⟨_, rfl⟩
          rw [← hVhT2, ← hnhT2] at hT2
          simp only [← hVhT2, ← hnhT2]
          clear hVhT2 hnhT2
          refine wpAnyC_on [6] kR (by simp) ?_
          simp only [List.forall_mem_cons, List.not_mem_nil, false_implies, implies_true, and_true]
          refine wpOp_of_list (by rw [List.getElem?_toArray]; rfl) ?_
          refine wpList_unguard wU ?_
          ((with_reducible refine wpList_appL 0 E_ints wU wU (hT2) wU ((hLr.below hT2.b)) (rfl) cIntO (by first | omega | (simp; omega)) (by first | omega | (simp; omega)) ?_); intro v3 w3 hT3)
          rw [List.nil_append] at hT3
          refine ⟨hT3.b, ?_⟩
          go_frame
          refine wpAnyC_on [9] kR (by simp) ?_
          simp only [List.forall_mem_cons, List.not_mem_nil, false_implies, implies_true, and_true]
          refine wpOp_of_list (by rw [List.getElem?_toArray]; rfl) ?_
          refine wpList_unguard wU ?_
          have hRb := hT3.rd 1 rfl
          ((with_reducible refine wpList_appL 0 E_ints wU wU (hT3) wU (hRb) (rfl) cIntO (by first | omega | (simp; omega)) (by first | omega | (simp; omega)) ?_); intro v4 w4 hT4)
          refine ⟨hT4.b, ?_⟩
          go_frame
          obtain ⟨a9, c9, rfl, hr9⟩ := hT4.slice 0 rfl
          refine wpAnyC_on [10] kR (by simp) ?_
          simp only [List.forall_mem_cons, List.not_mem_nil, false_implies, implies_true, and_true]
          refine wpOp_call (f := 50) (args := #[mV m ad cap, .slice a9 (l ++ [(k : Int)]).length c9]) (by rw [List.getElem?_toArray]; rfl) wU (by first | (go_simp; done) | (simp [execOp, Act.eval, Result.andThen]; done) | (simp [execOp, Act.eval, Result.andThen]; rfl)) ?_
          refine (HCA.out a9 c9 _ (hRr.below hT4.b) hr9).mono ?_
          rintro e w8 ⟨rfl, b8⟩
          have t8 := bnext hT4.b b8
          refine ⟨_, rfl, t8, ?_⟩
          go_frame
          refine wpAnyC_rest [11, 13, 14] [_, _, _] rfl (by simp only [List.map_cons, List.map_nil, List.getElem?_toArray]; rfl) kR kR kR (t8) ?_
          repeat (refine ⟨_, .inl ⟨by with_unfolding_all rfl, fun w' _ => by with_unfolding_all exact rfl⟩, ?_⟩; go_frame)
          unfold wpPure
          refine of_wpList_nil (P := Tryz.prog) (ops := #[]) ?_
          clear hT4
          go_wp2_with fail
          exact ⟨⟨k + 1, by omega, by go_num, by rw [HFN.out]; try go_num, bnext hb4 (bnext hbq t8)⟩, by simp [intOf]; omega⟩
       ·have hap : apartM m (k : Int) l = false := by
         cases h : apartM m (k : Int) l with
         | false => rfl
         | true => exact absurd (of_decide_eq_true htk) (HOUT.out k h)
        rw [hap] at hfs hfa
        replace hfs : freeN m l (k + 1) = n := by rw [hfs]; rfl
        replace hfa : ¬ (n < F2.length ∧ atD 0 F2 n = (k : Int)) := fun h => by have h2 := hfa.1 h; cases h2
        have HFN := hid hfs
        clear hfs hap htk
        by_cases hn5 : n < F2.length
        ·have hy : ∃ y, atD 0 F2 n = y ∧ (y == (k : Int)) = false := ⟨_, rfl, by rw [beq_eq_false_iff_ne]; exact fun e => hfa ⟨hn5, e⟩⟩
         obtain ⟨y, hy, hyk⟩ := hy
         have HY := hid hy
         clear hy hfa
         go_wp2_with ((first | (with_reducible refine wpList_idxG 0 E_ints F_int cInt1 wU wU (h5) (rfl) oD oD (fun _ => wU) wU (fun _ => wU) (fun _ => ?_)) | (with_reducible refine wpList_idxN _ 0 E_ints F_int cInt1 wU wU (h5) (rfl) oD oD (fun _ => wU) (fun _ => ?_))); rw [HY.out])
         refine wp_region_q kR kR ?_
         repeat (first | ((with_reducible refine wpQ_skip wU ?_); (try simp only [Act.put, pA, pB, pC])) |  ((with_reducible refine wpB_load (by first | exact F_int | exact F_u64s) wU wU (by assumption) wU ?_); (try simp only [Act.put, pA, pB, pC])) | ((refine wpQ_oneG ?_ wU (fun w' => ?_) ?_); rotate_left; (go_simp; rfl); (try simp only [Act.put, pA, pB, pC])))
         refine wpQuiet_nil ?_
         intro w8 b8
         go_wp2_with fail
         exact ⟨⟨k + 1, by omega, by go_num, by rw [HFN.out], bnext hb4 (bnext hbq b8)⟩, by simp [intOf]; omega⟩
        ·clear hfa
         go_wp2_with fail
         refine wp_region_q kR kR ?_
         repeat (first | ((with_reducible refine wpQ_skip wU ?_); (try simp only [Act.put, pA, pB, pC])) |  ((with_reducible refine wpB_load (by first | exact F_int | exact F_u64s) wU wU (by assumption) wU ?_); (try simp only [Act.put, pA, pB, pC])) | ((refine wpQ_oneG ?_ wU (fun w' => ?_) ?_); rotate_left; (go_simp; rfl); (try simp only [Act.put, pA, pB, pC])))
         refine wpQuiet_nil ?_
         intro w8 b8
         go_wp2_with fail
         exact ⟨⟨k + 1, by omega, by go_num, by rw [HFN.out], bnext hb4 (bnext hbq b8)⟩, by simp [intOf]; omega⟩
    ·have hkN : k = N := by omega
     subst hkN
     rw [HFZ.out]
     go_wp2_with fail
     go_ret
     exact ⟨rfl, bnext hb3 hb4⟩
end Go.Proofs.YtoebgfgihfjnnaaGreatDoor

namespace Go.Proofs.YtoebgfgihfjnnaaGreatDoor
open Go.RowKit
set_option maxHeartbeats 8000000
set_option maxRecDepth 100000
theorem mo_nofit (m : MacV) (ad al : Option Addr) (cap cl : Nat) (l : List Int) (w : World) (hR : Ints w ad cap m.sw) (hL : Ints w al cl l) (hI : InI m.gears) (hw : LibW w) (hf : ¬ Fits m l 3 8) :
  Calls Tryz.prog 7 #[mV m ad cap, .slice al l.length cl] w fun r w' => r = .returned (.bool true) ∧ Below w.heap.size w w' := by
 have hS0 := (SL.nil w).box (.cells (mC m ad cap) 24)
 have HA := hid awake4_any
 have hlc := hL.le
 have hlm := hL.max
 have HF := hid (fun w h h2 => lfits_no m ad al cap cl l 3 8 w h h2 hf)
 clear hf
 go_enter Tryz.func7, Tryz.ntmps7
 go_wp2_with fail
 refine (HA.out _ (hw.below hS0.b)).mono ?_
 rintro e w1 ⟨rfl, b1⟩
 have hS1 := hS0.mono b1
 have q1_m := (hS1.blk 0 rfl).1
 clear hS0
 go_wp2_with (with_reducible refine wpList_ldS (n := 4) (us := mC m ad cap) A_mach kR wU wU (by assumption) wU wU ?_)
 refine (HF.out _ (hR.below hS1.b) (hL.below hS1.b)).mono ?_
 rintro e w2 ⟨rfl, b2⟩
 have hS2 := hS1.mono b2
 have q2_m := (hS2.blk 0 rfl).1
 clear hS1 q1_m
 go_wp2_with fail
 refine (HA.out _ (hw.below hS2.b)).mono ?_
 rintro e w3 ⟨rfl, b3⟩
 have hS3 := hS2.mono b3
 have q3_m := (hS3.blk 0 rfl).1
 clear hS2 q2_m
 go_wp2_with fail
 go_ret
 exact ⟨rfl, hS3.b⟩
theorem MachineRooms_any (m : MacV) (ad al : Option Addr) (cap cl : Nat) (l : List Int) (w : World) (hR : Ints w ad cap m.sw) (hL : Ints w al cl l) (hI : InI m.gears) (hw : LibW w) :
  Calls Tryz.prog 7 #[mV m ad cap, .slice al l.length cl] w fun r w' => r = .returned (.bool true) ∧ Below w.heap.size w w' := by
 by_cases hf : Fits m l 3 8
 ·by_cases ha : accE m l = 0
  ·by_cases hz : 0 < (freeM m l).length
   ·exact mo_good1 m ad al cap cl l w hR hL hI hw hf ha hz
   ·exact mo_good0 m ad al cap cl l w hR hL hI hw hf ha hz
  ·exact mo_bad m ad al cap cl l w hR hL hI hw hf ha
 ·exact mo_nofit m ad al cap cl l w hR hL hI hw hf
end Go.Proofs.YtoebgfgihfjnnaaGreatDoor
