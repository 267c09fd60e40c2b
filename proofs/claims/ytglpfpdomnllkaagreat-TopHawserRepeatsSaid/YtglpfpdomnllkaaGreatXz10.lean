/- Contracts and plain facts that the claim uses (QrG QrH QsG NrP NrM TpF MbJ MaC). Conditions: as each one states. -/
import Derived.RangeFuncNested
import Derived.RangeFuncBound
import Derived.RangeFuncCalls
import Derived.RangeFuncLeaves
import Derived.RangeFuncFrom
import Derived.Shelf.Abstract
import Derived.Shelf.RegionOpen
import Derived.WalkKit
import Derived.OwnWalkIn
import Derived.TacticsInMore
import Derived.LoopNIn
import Derived.LoopIn
import Derived.Test.YtglpfpdomnllkaaGreatProg
import Derived.WalkSpells
import Derived.Maps.AppendAt
import Derived.Deep.Quiet
import Derived.Maps.Own
import Derived.Maps.OwnSet
import Derived.Maps.Views
import Derived.WalkLawsBesides
import Derived.Laws.EntriesVeiled
import Derived.Deep.QuietTactic
import Derived.BigQuiet
import Derived.Shelf.Strings.Trim
import Derived.Shelf.Strings.SlTrimAscii
import Derived.Shelf.Strings.Repeat
import Derived.Shelf.Strings.OnBuilder
import Derived.Shelf.Strconv.Itoa1
import Derived.Shelf.Strconv.Itoa3
import Derived.Shelf.LaysM
import Derived.Ground.Names2Prog
import Derived.Lib.OthersKept
import Derived.Deep.RegionHeld3
import Derived.Deep.AppendLies
import Derived.Deep.RegionHeldLaw
import Derived.Deep.RegionLaw
import Derived.StillTail
import Derived.Laws.Tables
import Derived.IntWalk
import Derived.Laws.CopyOwn
import Derived.BigRegion
import Derived.ChangeAlike
import Derived.Shelf.Bits.Mul64
import Derived.Lib.ItoaLen
import Derived.Lib.ItoaMem
import Derived.Sort.LoopGhostIn
import Derived.Maps.RangeWalk
import Derived.Deep.LoopGhost
import Derived.Maps.Ext
import Derived.Lib.Split
import Derived.Lib.AtoiAll
import Derived.Lib.AppendIntMem
import Derived.Lib.SmallJoins
import Derived.LaidSub
import Derived.Lib.LaidTab
import Derived.Lib.AtoiErrMem
import Derived.Stop.LaidErr
import Derived.ReadAgain
import Derived.ChangeSlices
import Derived.OpenShut
import Derived.ProofKit
import Derived.Deep.DeepHandedRow
import Derived.Deep.SlicePairs
import Derived.Test.YtglpfpdomnllkaaGreatXz01
import Derived.Test.YtglpfpdomnllkaaGreatXz02
import Derived.Test.YtglpfpdomnllkaaGreatXz03
import Derived.Test.YtglpfpdomnllkaaGreatXz04
import Derived.Test.YtglpfpdomnllkaaGreatXz05
import Derived.Test.YtglpfpdomnllkaaGreatXz06
import Derived.Test.YtglpfpdomnllkaaGreatXz08
import Derived.Test.YtglpfpdomnllkaaGreatXz09
set_option linter.all false

namespace Go.Proofs.YtglpfpdomnllkaaGreat
open Go.RowKit
set_option maxHeartbeats 4000000
set_option maxRecDepth 100000
theorem mapStep {l : List Int} (f : Int → Int) {k : Nat} (h : k < l.length) : (l.map f).take (k + 1) = (l.map f).take k ++ [f (atD 0 l k)] := by
 have e : atD 0 l k = l[k] := by simp [atD, h]
 rw [List.take_succ_eq_append_getElem (by simpa using h), e]
 simp
theorem atD_in {l : List Int} {P : Int → Prop} (h : ∀ x ∈ l, P x) {k : Nat} (hk : k < l.length) : P (atD 0 l k) := by
 have e : atD 0 l k = l[k] := by simp [atD, hk]
 rw [e]; exact h _ (List.getElem_mem hk)
theorem rSteps_any (m : MacV) (ad : Option Addr) (cap : Nat) (al : Option Addr) (cl : Nat) (l : List Int) (K : Nat) (w : World) (hR : Ints w ad cap m.sw) (hL : Ints w al cl l) (hg0 : 1 ≤ m.gears) (hg : m.gears ≤ 16) (hl : ∀ x ∈ l, 0 ≤ x ∧ x < 4 * m.gears) (hn : l.length ≤ 64) (hK : K ≤ 9223372036854775000) :
  Calls Tryz.prog 101 #[mV m ad cap, .slice al l.length cl, .int .i64 K] w fun r w' => ∃ v, r = .returned v ∧ OwnI w.heap.size w' v (l.map fun s => itM m s K) ∧ Below w.heap.size w w' := by
 have hcap := hL.le
 have hmx := hL.max
 have hS := (SL.nil w).box (.cells (mC m ad cap) 27)
 have CP := fun w h => rPerm_any m ad cap w h hg0 hg
 have hpl : (permM m).length ≤ 64 := by rw [permM_len]; omega
 have CW := fun a c w h => rPower_any a c (permM m) K w h (permM_isP m) hpl hK
 have hpw : ∀ k : Nat, k < l.length → 0 ≤ atD 0 l k ∧ atD 0 l k < (powP (permM m) K).length ∧ atD 0 (powP (permM m) K) (atD 0 l k) = itM m (atD 0 l k) K := fun k hk => by
  have h1 := atD_in hl hk
  rw [powP_len, permM_len]
  exact ⟨h1.1, by omega, powP_at h1.1 (by rw [permM_len]; omega)⟩
 have hst := fun (k : Nat) (h : k < l.length) => mapStep (fun s => itM m s K) h
 obtain ⟨L, hLL⟩ : ∃ L, L = l.map fun s => itM m s K := ⟨_, rfl⟩
 have hLlen : L.length = l.length := by rw [hLL]; simp
 simp only [← hLL] at hst
 rw [← hLL]
 obtain ⟨Q, hQ⟩ : ∃ Q, Q = powP (permM m) K := ⟨_, rfl⟩
 have hQl : Q.length ≤ 64 := by rw [hQ, powP_len]; exact hpl
 obtain ⟨Pm, hPm⟩ : ∃ Pm, Pm = permM m := ⟨_, rfl⟩
 rw [← hQ] at hpw
 rw [← hPm] at CP hpl
 simp only [← hQ] at CW
 simp only [← hPm] at CW
 obtain ⟨ev, hev⟩ : ∃ ev : Int → Int, ∀ s, ev s = itM m s K := ⟨_, fun _ => rfl⟩
 simp only [← hev] at hpw hst
 have HP := hid CP; have HW := hid CW; have HPW := hid hpw; have HST := hid hst; have HLN := hid hLlen
 clear CP CW hpw hst hLL hQ hPm hl hLlen hev
 go_enter Tryz.func101, Tryz.ntmps101
 go_wp2_with fail
 refine (HP.out _ (hR.below hS.b)).mono ?_
 rintro e w1 ⟨v1, rfl, ho1, b1⟩
 obtain ⟨a1, c1, rfl, h1, _, _⟩ := ho1.reps
 have hS1 := hS.mono b1
 go_wp2_with fail
 refine (HW.out a1 c1 w1 h1).mono ?_
 rintro e w2 ⟨v2, rfl, ho2, b2⟩
 obtain ⟨a2, c2, rfl, h2, _, _⟩ := ho2.reps
 have t2 := bnext hS1.b b2
 have hS2 := ((SL.nil w2).nilS (α := Int) (e := 3) cIntS)
 clear hS hS1 ho1 ho2 h1 b1 b2
 go_wp2_with fail
 go_loopw [9, 8] (fun i v wr => ∃ k : Nat, k ≤ l.length ∧ i = .int .i64 k ∧ SL w2.heap.size w2 wr [pOwn cInt 1 3 v (L.take k)]) (fun i _ _ => l.length - (intOf i).toNat)
 case atStart => exact ⟨0, by omega, rfl, hS2⟩
 case round =>
  clear hS2
  obtain ⟨k, hk, rfl, hSr⟩ := hrel
  by_cases hlt : k < l.length
  ·obtain ⟨x0, x1, x2⟩ := HPW.out k hlt
   have hs := HST.out k hlt
   have hle : (L.take k).length ≤ 64 := by rw [List.length_take]; omega
   obtain ⟨x, hx⟩ : ∃ x, x = atD 0 l k := ⟨_, rfl⟩
   rw [← hx] at x0 x1 x2 hs
   obtain ⟨y, hy⟩ : ∃ y, y = ev x := ⟨_, rfl⟩
   rw [← hy] at x2 hs
   have HX := hid hx; have HX2 := hid x2; have HS := hid hs
   have hLr := hL.below (bnext t2 hSr.b)
   have hQr := h2.below hSr.b
   clear hx x2 hs hy
   go_wp2_with (first | ((with_reducible refine wpList_idx _ 0 E_ints F_int cInt1 wU wU (hLr) oD oD (fun _ => wU) (fun _ => ?_)); rw [← HX.out]) | ((with_reducible refine wpList_idx _ 0 E_ints F_int cInt1 wU wU (hQr) oD oD (fun _ => wU) (fun _ => ?_)); rw [HX2.out]) | ((with_reducible refine wpList_pushL (y := y) 0 E_ints wU wU (hSr) wU cIntO ⟨rfl, rfl⟩ (by first | with_unfolding_all rfl | simp) wU (by first | omega | (simp; omega)) (by first | omega | (simp; omega)) ?_); intro v5 w5 hS5))
   exact ⟨⟨k + 1, by omega, by go_num, by rw [HS.out]; exact hS5⟩, by simp [intOf]; omega⟩
  ·have hkn : k = L.length := by rw [HLN.out]; omega
   have et : L.take k = L := by rw [hkn, List.take_length]
   rw [et] at hSr
   clear et hkn
   go_wp2_with fail
   go_ret
   exact ⟨_, rfl, (hSr.own 0 rfl).mono t2.size, bnext t2 hSr.b⟩
theorem rpair_any (m : MacV) (ad : Option Addr) (cap : Nat) (a b : Int) (w : World) (hR : Ints w ad cap m.sw) (hg0 : 1 ≤ m.gears) (hg : m.gears ≤ 16) (a0 : 0 ≤ a) (a1 : a < 4 * m.gears) (b0 : 0 ≤ b) (b1 : b < 4 * m.gears) (hne : a ≠ b) :
  Calls Tryz.prog 99 #[mV m ad cap, .int .i64 a, .int .i64 b] w fun r w' => r = .returned (.int .i64 (pairN m (a, b))) ∧ Below w.heap.size w w' := by
 have hcap := hR.le
 have hmx := hR.max
 have hS := (SL.nil w).box (.cells (mC m ad cap) 27)
 obtain ⟨L, hL0, hL1, hLa, hLb⟩ := meet_per2 hg a0 a1 b0 b1
 have hMR := meetM_spec m a b
 obtain ⟨R, hRR⟩ : ∃ R, R = pairN m (a, b) := ⟨_, rfl⟩
 have hRv : R = match meetM m a b with | some v => (v.1 : Int) | none => -1 := hRR
 rw [← hRR]
 generalize meetM m a b = mm at hMR hRv
 have HX : Hid (∀ n : Nat, 0 ≤ itM m a n ∧ itM m a n < 4 * m.gears) := hid fun n => itM_rng a0 a1 n
 have HY : Hid (∀ n : Nat, 0 ≤ itM m b n ∧ itM m b n < 4 * m.gears) := hid fun n => itM_rng b0 b1 n
 have HNX : Hid (∀ n : Nat, itM m a (n + 1) = nextM m (itM m a n)) := hid fun n => itM_succ a0 a1 n
 have HNY : Hid (∀ n : Nat, itM m b (n + 1) = nextM m (itM m b n)) := hid fun n => itM_succ b0 b1 n
 have HNE : Hid (∀ n : Nat, itM m b n ≠ itM m a n) := hid fun n e => hne (itM_inj b0 b1 a0 a1 n e).symm
 have HO : Hid (∀ (x : Int) w, 0 ≤ x → x < 4 * m.gears → _) := hid fun x w h0 h1 => rOther_any m ad cap x w hg0 hg h0 h1
 have HST : Hid (∀ (x : Int) w, Ints w ad cap m.sw → 0 ≤ x → x < 4 * m.gears → _) := hid fun x w h h0 h1 => rStep_any m ad cap x w h hg0 hg h0 h1
 have HMR := hid hMR; have HRV := hid hRv
 have HLA := hid hLa; have HLB := hid hLb
 clear hMR hRv hRR hLa hLb hne a0 a1 b0 b1
 go_enter Tryz.func99, Tryz.ntmps99
 go_wp2_with fail
 go_loopw [7, 8, 9] (fun x y i wr => ∃ n : Nat, n < L ∧ x = .int .i64 (itM m a n) ∧ y = .int .i64 (itM m b n) ∧ i = .int .i64 n ∧ (∀ k, k < n → hitM m (itM m a k) (itM m b k) = false) ∧ SL w.heap.size w wr [pBlk w.heap.size (.cells (mC m ad cap) 27)]) (fun _ _ i _ => L - (intOf i).toNat)
 case atStart => exact ⟨0, hL0, rfl, rfl, rfl, fun k hk => absurd hk (Nat.not_lt_zero k), hS⟩
 case round =>
  clear hS
  obtain ⟨n, hn, rfl, rfl, rfl, hno, hSr⟩ := hrel
  have HNO := hid hno
  clear hno
  have q0 := (hSr.blk 0 rfl).1
  obtain ⟨X, hX⟩ : ∃ X, X = itM m a n := ⟨_, rfl⟩
  obtain ⟨Y, hY⟩ : ∃ Y, Y = itM m b n := ⟨_, rfl⟩
  have hxr := HX.out n
  have hyr := HY.out n
  have hnx := HNX.out n
  have hny := HNY.out n
  have hoh := other_hit (m := m) (x := itM m a n) (y := itM m b n) hxr.1 hxr.2 hyr.1 hyr.2 (HNE.out n)
  have CO := fun w => HO.out (itM m a n) w hxr.1 hxr.2
  have CX := fun w h => HST.out (itM m a n) w h hxr.1 hxr.2
  have CY := fun w h => HST.out (itM m b n) w h hyr.1 hyr.2
  rw [← hX] at hoh CO CX hnx ⊢
  rw [← hY] at hoh CY hny ⊢
  obtain ⟨O, hOO⟩ : ∃ O, O = otherM m X := ⟨_, rfl⟩
  rw [← hOO] at hoh CO
  have hn4 : (n : Int) < 4096 := by omega
  have HCO := hid CO; have HCX := hid CX; have HCY := hid CY; have HNX1 := hid hnx; have HNY1 := hid hny; have EX := hid hX; have EY := hid hY
  clear CO CX CY hOO hxr hyr hnx hny hX hY
  cases hhit : hitM m X Y
  ·rw [hhit] at hoh
   have HIT := hid hhit
   clear hhit
   go_wp2_with (with_reducible refine wpList_ldS (n := 4) (us := mC m ad cap) A_rmach kR wU wU (by assumption) wU wU ?_)
   refine (HCO.out _).mono ?_
   rintro e w4 ⟨rfl, b4⟩
   have hS4 := hSr.mono b4
   clear q0
   go_wp2_with fail
   have R4 := hR.below hS4.b
   have q4 := (hS4.blk 0 rfl).1
   refine wp_region_q kR kR ?_
   repeat (first | ((with_reducible refine wpB_loadS (n := 4) (us := mC m ad cap) A_rmach kR wU wU (by assumption) wU wU ?_); (try simp only [Act.put, pA, pB, pC])) | ((refine wpB_call (.int .i64 (nextM m X)) wU (fun w' => ?_) (fun w' hw' => HCX.out w' (R4.below hw')) ?_); (focus (go_simp; done)); (try simp only [Act.put, pA, pB, pC])) | ((refine wpB_call (.int .i64 (nextM m Y)) wU (fun w' => ?_) (fun w' hw' => HCY.out w' (R4.below hw')) ?_); (focus (go_simp; done)); (try simp only [Act.put, pA, pB, pC])) |  ((with_reducible refine wpB_load (by first | exact F_int | fail) wU wU (by assumption) wU ?_); (try simp only [Act.put, pA, pB, pC])) | ((with_reducible refine wpB_loadS (n := 2) (us := #[_, _]) (by fail) kR wU wU (by assumption) wU wU ?_); (try simp only [Act.put, pA, pB, pC])) | ((with_reducible refine wpB_loadS (n := 4) (us := #[_, _, _, _]) (by fail) kR wU wU (by assumption) wU wU ?_); (try simp only [Act.put, pA, pB, pC])) | ((refine wpQ_oneG ?_ wU (fun w' => ?_) ?_); rotate_left; (go_simp; rfl); (try simp only [Act.put, pA, pB, pC])))
   refine wpQuiet_nil ?_
   intro w5 hb5
   have hS5 := hS4.mono hb5
   rw [← HNX1.out, ← HNY1.out]
   have hno2 : ∀ k, k < n + 1 → hitM m (itM m a k) (itM m b k) = false := by
    intro k hk
    by_cases e : k = n
    ·rw [e, ← EX.out, ← EY.out]; exact HIT.out
    ·exact HNO.out k (by omega)
   by_cases ea : itM m a (n + 1) = a
   ·by_cases eb : itM m b (n + 1) = b
    ·have hN : MeetR m a b none := meet_none (by omega) ea eb hno2
     have hrn := HMR.out.eq hN
     subst hrn
     have hR1 : R = -1 := HRV.out
     clear hno2 hN HRV
     subst hR1
     have da : (itM m a (n + 1) == a) = true := by simpa using ea
     have db : (itM m b (n + 1) == b) = true := by simpa using eb
     clear ea eb
     go_wp2_with fail
     go_ret
     exact ⟨rfl, hS5.b⟩
    ·have da : (itM m a (n + 1) == a) = true := by simpa using ea
     have db : (itM m b (n + 1) == b) = false := by simpa using eb
     have hnl : n + 1 ≠ L := fun e => eb (by rw [e]; exact HLB.out)
     have HNO2 := hid hno2
     clear ea eb hno2
     go_wp2_with fail
     exact ⟨⟨n + 1, by omega, rfl, rfl, by go_num, HNO2.out, hS5⟩, by simp [intOf]; omega⟩
   ·have da : (itM m a (n + 1) == a) = false := by simpa using ea
    have hnl : n + 1 ≠ L := fun e => ea (by rw [e]; exact HLA.out)
    have HNO2 := hid hno2
    clear ea hno2
    go_wp2_with fail
    exact ⟨⟨n + 1, by omega, rfl, rfl, by go_num, HNO2.out, hS5⟩, by simp [intOf]; omega⟩
  ·rw [hhit] at hoh
   have hM : MeetR m a b (some (n, placeM m X)) := ⟨by rw [← EX.out, ← EY.out]; exact hhit, by rw [← EX.out], HNO.out⟩
   have hrn := HMR.out.eq hM
   subst hrn
   have hR1 : R = n := HRV.out
   clear hhit hM HRV
   subst hR1
   go_wp2_with (with_reducible refine wpList_ldS (n := 4) (us := mC m ad cap) A_rmach kR wU wU (by assumption) wU wU ?_)
   refine (HCO.out _).mono ?_
   rintro e w4 ⟨rfl, b4⟩
   go_wp2_with fail
   go_ret
   exact ⟨rfl, bnext hSr.b b4⟩
end Go.Proofs.YtglpfpdomnllkaaGreat

namespace Go.Proofs.YtglpfpdomnllkaaGreat
open Go.RowKit
set_option maxHeartbeats 8000000
set_option maxRecDepth 100000
theorem pairsAt_succ {l : List Int} {i j : Nat} (h : j < l.length) : pairsAt l i (j + 1) = pairsAt l i j ++ [(atD 0 l i, atD 0 l j)] := by
 unfold pairsAt
 rw [take_snoc h, List.map_append, List.append_assoc]
 rfl
theorem min_at (f : Int × Int → Int) {l : List Int} {i j : Nat} (h : j < l.length) : minF f (pairsAt l i (j + 1)) = if 0 ≤ f (atD 0 l i, atD 0 l j) ∧ (minF f (pairsAt l i j) < 0 ∨ f (atD 0 l i, atD 0 l j) < minF f (pairsAt l i j)) then f (atD 0 l i, atD 0 l j) else minF f (pairsAt l i j) := by
 rw [pairsAt_succ h, minF_snoc]
theorem ne_atI {l : List Int} (h : l.Nodup) {i j : Nat} (hi : i < l.length) (hj : j < l.length) (hij : j < i) : atD 0 l j ≠ atD 0 l i := by
 have ei : atD 0 l i = l[i] := by simp [atD, hi]
 have ej : atD 0 l j = l[j] := by simp [atD, hj]
 rw [ei, ej]
 intro e
 have := (List.getElem_inj h).1 e
 omega
theorem rNow_any (m : MacV) (ad : Option Addr) (cap : Nat) (al : Option Addr) (cl : Nat) (l : List Int) (w : World) (hL : Ints w al cl l) (hg0 : 1 ≤ m.gears) (hg : m.gears ≤ 16) (hl : ∀ x ∈ l, 0 ≤ x ∧ x < 4 * m.gears) (hn : l.length ≤ 64) (hnd : l.Nodup) :
  Calls Tryz.prog 100 #[mV m ad cap, .slice al l.length cl] w fun r w' => r = .returned (.int .i64 (nowM m l)) ∧ Below w.heap.size w w' := by
 have hcap := hL.le
 have hmx := hL.max
 have hS := (SL.nil w).box (.cells (mC m ad cap) 27)
 have HIN : Hid (∀ k : Nat, k < l.length → 0 ≤ atD 0 l k ∧ atD 0 l k < 4 * m.gears) := hid fun k hk => atD_in hl hk
 have HNE : Hid (∀ i j : Nat, i < l.length → j < i → atD 0 l j ≠ atD 0 l i) := hid fun i j hi hj => ne_atI hnd hi (by omega) hj
 have HOA : Hid (∀ (x : Int) w, 0 ≤ x → x < 4 * m.gears → _) := hid fun x w h0 h1 => rOther_any m ad cap x w hg0 hg h0 h1
 have HPA : Hid (∀ (x : Int) w, 0 ≤ x → x < 4 * m.gears → _) := hid fun x w h0 h1 => rPlace_any m ad cap x w hg h0 h1
 have HMA : Hid (∀ i j : Nat, j < l.length → _) := hid fun i j h => min_at (hereN m) (l := l) (i := i) (j := j) h
 have HE : Hid (nowM m l = minF (hereN m) (pairsTo l l.length)) := hid rfl
 rw [HE.out]
 clear hl hnd
 obtain ⟨F, hF⟩ : ∃ F : List (Int × Int) → Int, ∀ ps, F ps = minF (hereN m) ps := ⟨_, fun _ => rfl⟩
 have HF := hid hF
 rw [← hF]
 clear hF
 have hF0 : F (pairsTo l 0) = -1 := by rw [HF.out]; rfl
 have HF0 := hid hF0
 clear hF0
 go_enter Tryz.func100, Tryz.ntmps100
 go_wp2_with fail
 go_loopw [5, 6, 7] (fun bo i _ wr => ∃ k : Nat, k ≤ l.length ∧ bo = .int .i64 (F (pairsTo l k)) ∧ i = .int .i64 k ∧ SL w.heap.size w wr [pBlk w.heap.size (.cells (mC m ad cap) 27)]) (fun _ i _ _ => l.length - (intOf i).toNat)
 case atStart => exact ⟨0, by omega, by rw [HF0.out], rfl, hS⟩
 case round =>
  clear hS
  obtain ⟨k, hk, rfl, rfl, hSr⟩ := hrel
  by_cases hlt : k < l.length
  ·go_wp2_with fail
   go_loopw [5, 7] (fun bo i wq => ∃ j : Nat, j ≤ k ∧ bo = .int .i64 (F (pairsAt l k j)) ∧ i = .int .i64 j ∧ SL w.heap.size w wq [pBlk w.heap.size (.cells (mC m ad cap) 27)]) (fun _ i _ => k - (intOf i).toNat)
   case atStart => exact ⟨0, by omega, by rw [pairsAt_zero], rfl, hSr⟩
   case round =>
    clear hSr
    obtain ⟨j, hj, rfl, rfl, hSq⟩ := hrel
    by_cases hjk : j < k
    ·have hst := HMA.out k j (by omega)
     rw [← HF.out, ← HF.out] at hst
     have hix := HIN.out k hlt
     have hiy := HIN.out j (by omega)
     have hoh := other_hit hix.1 hix.2 hiy.1 hiy.2 (HNE.out k j hlt hjk)
     have CO := fun w => HOA.out (atD 0 l k) w hix.1 hix.2
     have CP := fun w => HPA.out (atD 0 l k) w hix.1 hix.2
     have hhe : hereN m (atD 0 l k, atD 0 l j) = if hitM m (atD 0 l k) (atD 0 l j) then placeM m (atD 0 l k) else -1 := rfl
     rw [hhe] at hst
     have hpl := hit_place (m := m) (x := atD 0 l k) (y := atD 0 l j)
     obtain ⟨X, hX⟩ : ∃ X, X = atD 0 l k := ⟨_, rfl⟩
     obtain ⟨Y, hY⟩ : ∃ Y, Y = atD 0 l j := ⟨_, rfl⟩
     obtain ⟨B, hB⟩ : ∃ B, B = F (pairsAt l k j) := ⟨_, rfl⟩
     rw [← hB] at hst ⊢
     rw [← hX] at hst hoh CO CP hpl
     rw [← hY] at hst hoh hpl
     obtain ⟨O, hO⟩ : ∃ O, O = otherM m X := ⟨_, rfl⟩
     obtain ⟨Pl, hPl⟩ : ∃ P, P = placeM m X := ⟨_, rfl⟩
     rw [← hO] at CO hoh
     rw [← hPl] at CP hst hpl
     have HX := hid hX; have HY := hid hY; have HO := hid CO; have HP := hid CP
     have hLq := hL.below hSq.b
     have q2 := (hSq.blk 0 rfl).1
     have hkl : (k : Int) < l.length := by omega
     have hjl : (j : Int) < l.length := by omega
     clear hix hiy CO CP hhe hX hY hB hO hPl
     cases hh : hitM m X Y
     ·rw [hh] at hoh hst
      simp only [Bool.false_eq_true, if_false, show ¬ (0 : Int) ≤ -1 by decide, false_and] at hst
      have HST := hid hst
      clear hst hpl hh
      go_wp2_with fail
      refine wp_region_q kR kR ?_
      repeat (first | ((with_reducible refine wpQ_skip wU ?_); (try simp only [Act.put, pA, pB, pC])) | ((with_reducible refine wpB_loadS (n := 4) (us := mC m ad cap) A_rmach kR wU wU (by assumption) wU wU ?_); (try simp only [Act.put, pA, pB, pC])) | (((with_reducible refine wpB_idxW 0 E_ints F_int cInt1 wU (rfl) wU (hLq) oD oD (fun _ => wU) wU (fun _ => wU) (fun _ => ?_)); (try simp only [Act.put, pA, pB, pC]); (try simp only [cInt])); first | rw [← HX.out] | rw [← HY.out]) | ((with_reducible refine wpB_call (.int .i64 O) wU (fun w' => ?_) (fun w' hw' => HO.out w') ?_); (focus (go_simp; done)); (try simp only [Act.put, pA, pB, pC])) | ((with_reducible refine wpB_call (.int .i64 Pl) wU (fun w' => ?_) (fun w' hw' => HP.out w') ?_); (focus (go_simp; done)); (try simp only [Act.put, pA, pB, pC])) | (((refine wpQ_oneG ?_ wU (fun w' => ?_) ?_); rotate_left; (go_simp; rfl); (try simp only [Act.put, pA, pB, pC])); first | rw [hoh] | skip) |  ((with_reducible refine wpB_load (by first | exact F_int | fail) wU wU (by assumption) wU ?_); (try simp only [Act.put, pA, pB, pC])) | ((with_reducible refine wpB_loadS (n := 2) (us := #[_, _]) (by fail) kR wU wU (by assumption) wU wU ?_); (try simp only [Act.put, pA, pB, pC])) | ((with_reducible refine wpB_loadS (n := 4) (us := #[_, _, _, _]) (by fail) kR wU wU (by assumption) wU wU ?_); (try simp only [Act.put, pA, pB, pC])) | ((refine wpQ_oneG ?_ wU (fun w' => ?_) ?_); rotate_left; (go_simp; rfl); (try simp only [Act.put, pA, pB, pC])))
      refine wpQuiet_nil ?_
      intro w5 hb5
      have hS5 := hSq.mono hb5
      clear q2
      go_wp2_with fail
      exact ⟨⟨j + 1, by omega, by rw [HST.out], by go_num, hS5⟩, by simp [intOf]; omega⟩
     ·rw [hh] at hoh hst
      simp only [if_true, hpl hh, true_and] at hst
      clear hpl hh
      by_cases hB0 : B < 0
      ·rw [if_pos (.inl hB0)] at hst
       have hbd : decide (B < 0) = true := decide_eq_true hB0
       have HST := hid hst
       clear hst hB0
       go_wp2_with fail
       refine wp_region_q kR kR ?_
       repeat (first | ((with_reducible refine wpQ_skip wU ?_); (try simp only [Act.put, pA, pB, pC])) | ((with_reducible refine wpB_loadS (n := 4) (us := mC m ad cap) A_rmach kR wU wU (by assumption) wU wU ?_); (try simp only [Act.put, pA, pB, pC])) | (((with_reducible refine wpB_idxW 0 E_ints F_int cInt1 wU (rfl) wU (hLq) oD oD (fun _ => wU) wU (fun _ => wU) (fun _ => ?_)); (try simp only [Act.put, pA, pB, pC]); (try simp only [cInt])); first | rw [← HX.out] | rw [← HY.out]) | ((with_reducible refine wpB_call (.int .i64 O) wU (fun w' => ?_) (fun w' hw' => HO.out w') ?_); (focus (go_simp; done)); (try simp only [Act.put, pA, pB, pC])) | ((with_reducible refine wpB_call (.int .i64 Pl) wU (fun w' => ?_) (fun w' hw' => HP.out w') ?_); (focus (go_simp; done)); (try simp only [Act.put, pA, pB, pC])) | (((refine wpQ_oneG ?_ wU (fun w' => ?_) ?_); rotate_left; (go_simp; rfl); (try simp only [Act.put, pA, pB, pC])); first | rw [hoh] | rw [hbd] | skip) |  ((with_reducible refine wpB_load (by first | exact F_int | fail) wU wU (by assumption) wU ?_); (try simp only [Act.put, pA, pB, pC])) | ((with_reducible refine wpB_loadS (n := 2) (us := #[_, _]) (by fail) kR wU wU (by assumption) wU wU ?_); (try simp only [Act.put, pA, pB, pC])) | ((with_reducible refine wpB_loadS (n := 4) (us := #[_, _, _, _]) (by fail) kR wU wU (by assumption) wU wU ?_); (try simp only [Act.put, pA, pB, pC])) | ((refine wpQ_oneG ?_ wU (fun w' => ?_) ?_); rotate_left; (go_simp; rfl); (try simp only [Act.put, pA, pB, pC])))
       refine wpQuiet_nil ?_
       intro w5 hb5
       have hS5 := hSq.mono hb5
       clear q2
       go_wp2_with fail
       have hL5 := hL.below hS5.b
       have q5 := (hS5.blk 0 rfl).1
       refine wp_region_q kR kR ?_
       repeat (first | ((with_reducible refine wpB_loadS (n := 4) (us := mC m ad cap) A_rmach kR wU wU (by assumption) wU wU ?_); (try simp only [Act.put, pA, pB, pC])) | (((with_reducible refine wpB_idxW 0 E_ints F_int cInt1 wU (rfl) wU (hL5) oD oD (fun _ => wU) wU (fun _ => wU) (fun _ => ?_)); (try simp only [Act.put, pA, pB, pC]); (try simp only [cInt])); rw [← HX.out]) | ((with_reducible refine wpB_call (.int .i64 Pl) wU (fun w' => ?_) (fun w' hw' => HP.out w') ?_); (focus (go_simp; done)); (try simp only [Act.put, pA, pB, pC])) |  ((with_reducible refine wpB_load (by first | exact F_int | fail) wU wU (by assumption) wU ?_); (try simp only [Act.put, pA, pB, pC])) | ((with_reducible refine wpB_loadS (n := 2) (us := #[_, _]) (by fail) kR wU wU (by assumption) wU wU ?_); (try simp only [Act.put, pA, pB, pC])) | ((with_reducible refine wpB_loadS (n := 4) (us := #[_, _, _, _]) (by fail) kR wU wU (by assumption) wU wU ?_); (try simp only [Act.put, pA, pB, pC])) | ((refine wpQ_oneG ?_ wU (fun w' => ?_) ?_); rotate_left; (go_simp; rfl); (try simp only [Act.put, pA, pB, pC])))
       refine wpQuiet_nil ?_
       intro w6 hb6
       have hS6 := hS5.mono hb6
       go_wp2_with fail
       exact ⟨⟨j + 1, by omega, by rw [HST.out], by go_num, hS6⟩, by simp [intOf]; omega⟩
      ·have hbd : decide (B < 0) = false := decide_eq_false hB0
       by_cases hPB : Pl < B
       ·rw [if_pos (.inr hPB)] at hst
        have hpd : decide (Pl < B) = true := decide_eq_true hPB
        have HST := hid hst
        clear hst hB0 hPB
        go_wp2_with fail
        refine wp_region_q kR kR ?_
        repeat (first | ((with_reducible refine wpQ_skip wU ?_); (try simp only [Act.put, pA, pB, pC])) | ((with_reducible refine wpB_loadS (n := 4) (us := mC m ad cap) A_rmach kR wU wU (by assumption) wU wU ?_); (try simp only [Act.put, pA, pB, pC])) | (((with_reducible refine wpB_idxW 0 E_ints F_int cInt1 wU (rfl) wU (hLq) oD oD (fun _ => wU) wU (fun _ => wU) (fun _ => ?_)); (try simp only [Act.put, pA, pB, pC]); (try simp only [cInt])); first | rw [← HX.out] | rw [← HY.out]) | ((with_reducible refine wpB_call (.int .i64 O) wU (fun w' => ?_) (fun w' hw' => HO.out w') ?_); (focus (go_simp; done)); (try simp only [Act.put, pA, pB, pC])) | ((with_reducible refine wpB_call (.int .i64 Pl) wU (fun w' => ?_) (fun w' hw' => HP.out w') ?_); (focus (go_simp; done)); (try simp only [Act.put, pA, pB, pC])) | (((refine wpQ_oneG ?_ wU (fun w' => ?_) ?_); rotate_left; (go_simp; rfl); (try simp only [Act.put, pA, pB, pC])); first | rw [hoh] | rw [hbd] | rw [hpd] | skip) |  ((with_reducible refine wpB_load (by first | exact F_int | fail) wU wU (by assumption) wU ?_); (try simp only [Act.put, pA, pB, pC])) | ((with_reducible refine wpB_loadS (n := 2) (us := #[_, _]) (by fail) kR wU wU (by assumption) wU wU ?_); (try simp only [Act.put, pA, pB, pC])) | ((with_reducible refine wpB_loadS (n := 4) (us := #[_, _, _, _]) (by fail) kR wU wU (by assumption) wU wU ?_); (try simp only [Act.put, pA, pB, pC])) | ((refine wpQ_oneG ?_ wU (fun w' => ?_) ?_); rotate_left; (go_simp; rfl); (try simp only [Act.put, pA, pB, pC])))
        refine wpQuiet_nil ?_
        intro w5 hb5
        have hS5 := hSq.mono hb5
        clear q2
        go_wp2_with fail
        have hL5 := hL.below hS5.b
        have q5 := (hS5.blk 0 rfl).1
        refine wp_region_q kR kR ?_
        repeat (first | ((with_reducible refine wpB_loadS (n := 4) (us := mC m ad cap) A_rmach kR wU wU (by assumption) wU wU ?_); (try simp only [Act.put, pA, pB, pC])) | (((with_reducible refine wpB_idxW 0 E_ints F_int cInt1 wU (rfl) wU (hL5) oD oD (fun _ => wU) wU (fun _ => wU) (fun _ => ?_)); (try simp only [Act.put, pA, pB, pC]); (try simp only [cInt])); rw [← HX.out]) | ((with_reducible refine wpB_call (.int .i64 Pl) wU (fun w' => ?_) (fun w' hw' => HP.out w') ?_); (focus (go_simp; done)); (try simp only [Act.put, pA, pB, pC])) |  ((with_reducible refine wpB_load (by first | exact F_int | fail) wU wU (by assumption) wU ?_); (try simp only [Act.put, pA, pB, pC])) | ((with_reducible refine wpB_loadS (n := 2) (us := #[_, _]) (by fail) kR wU wU (by assumption) wU wU ?_); (try simp only [Act.put, pA, pB, pC])) | ((with_reducible refine wpB_loadS (n := 4) (us := #[_, _, _, _]) (by fail) kR wU wU (by assumption) wU wU ?_); (try simp only [Act.put, pA, pB, pC])) | ((refine wpQ_oneG ?_ wU (fun w' => ?_) ?_); rotate_left; (go_simp; rfl); (try simp only [Act.put, pA, pB, pC])))
        refine wpQuiet_nil ?_
        intro w6 hb6
        have hS6 := hS5.mono hb6
        go_wp2_with fail
        exact ⟨⟨j + 1, by omega, by rw [HST.out], by go_num, hS6⟩, by simp [intOf]; omega⟩
       ·rw [if_neg (fun h => by rcases h with h | h; exact hB0 h; exact hPB h)] at hst
        have hpd : decide (Pl < B) = false := decide_eq_false hPB
        have HST := hid hst
        clear hst hB0 hPB
        go_wp2_with fail
        refine wp_region_q kR kR ?_
        repeat (first | ((with_reducible refine wpQ_skip wU ?_); (try simp only [Act.put, pA, pB, pC])) | ((with_reducible refine wpB_loadS (n := 4) (us := mC m ad cap) A_rmach kR wU wU (by assumption) wU wU ?_); (try simp only [Act.put, pA, pB, pC])) | (((with_reducible refine wpB_idxW 0 E_ints F_int cInt1 wU (rfl) wU (hLq) oD oD (fun _ => wU) wU (fun _ => wU) (fun _ => ?_)); (try simp only [Act.put, pA, pB, pC]); (try simp only [cInt])); first | rw [← HX.out] | rw [← HY.out]) | ((with_reducible refine wpB_call (.int .i64 O) wU (fun w' => ?_) (fun w' hw' => HO.out w') ?_); (focus (go_simp; done)); (try simp only [Act.put, pA, pB, pC])) | ((with_reducible refine wpB_call (.int .i64 Pl) wU (fun w' => ?_) (fun w' hw' => HP.out w') ?_); (focus (go_simp; done)); (try simp only [Act.put, pA, pB, pC])) | (((refine wpQ_oneG ?_ wU (fun w' => ?_) ?_); rotate_left; (go_simp; rfl); (try simp only [Act.put, pA, pB, pC])); first | rw [hoh] | rw [hbd] | rw [hpd] | skip) |  ((with_reducible refine wpB_load (by first | exact F_int | fail) wU wU (by assumption) wU ?_); (try simp only [Act.put, pA, pB, pC])) | ((with_reducible refine wpB_loadS (n := 2) (us := #[_, _]) (by fail) kR wU wU (by assumption) wU wU ?_); (try simp only [Act.put, pA, pB, pC])) | ((with_reducible refine wpB_loadS (n := 4) (us := #[_, _, _, _]) (by fail) kR wU wU (by assumption) wU wU ?_); (try simp only [Act.put, pA, pB, pC])) | ((refine wpQ_oneG ?_ wU (fun w' => ?_) ?_); rotate_left; (go_simp; rfl); (try simp only [Act.put, pA, pB, pC])))
        refine wpQuiet_nil ?_
        intro w5 hb5
        have hS5 := hSq.mono hb5
        clear q2
        go_wp2_with fail
        exact ⟨⟨j + 1, by omega, by rw [HST.out], by go_num, hS5⟩, by simp [intOf]; omega⟩
    ·have hjk2 : j = k := by omega
     subst hjk2
     go_wp2_with fail
     exact ⟨⟨j + 1, by omega, by rw [pairsAt_last], by go_num, hSq⟩, by simp [intOf]; omega⟩
  ·have hkn : k = l.length := by omega
   subst hkn
   go_wp2_with fail
   go_ret
   exact ⟨rfl, hSr.b⟩
def meetV : Option (Nat × Int) → Value
 | some v => .tuple #[.int .i64 v.1, .int .i64 v.2]
 | none => .tuple #[.int .i64 (-1), .int .i64 0]
theorem rMeet_any (m : MacV) (ad : Option Addr) (cap : Nat) (al : Option Addr) (cl : Nat) (l : List Int) (w : World) (hR : Ints w ad cap m.sw) (hL : Ints w al cl l) (hg0 : 1 ≤ m.gears) (hg : m.gears ≤ 16) (hl : ∀ x ∈ l, 0 ≤ x ∧ x < 4 * m.gears) (hn : l.length ≤ 64) (hnd : l.Nodup) :
  Calls Tryz.prog 46 #[mV m ad cap, .slice al l.length cl] w fun r w' => r = .returned (meetV (firstM m l)) ∧ Below w.heap.size w w' := by
 have hcap := hL.le
 have hmx := hL.max
 have hS := (SL.nil w).box (.cells (mC m ad cap) 27)
 have HNE : Hid (∀ i j : Nat, i < l.length → j < i → atD 0 l j ≠ atD 0 l i) := hid fun i j hi hj => ne_atI hnd hi (by omega) hj
 have HIN : Hid (∀ k : Nat, k < l.length → 0 ≤ atD 0 l k ∧ atD 0 l k < 4 * m.gears) := hid fun k hk => atD_in hl hk
 have HCA : Hid (∀ (i j : Nat) w, Ints w ad cap m.sw → i < l.length → j < i → _) := hid fun i j w h hi hj => rpair_any m ad cap (atD 0 l i) (atD 0 l j) w h hg0 hg (HIN.out i hi).1 (HIN.out i hi).2 (HIN.out j (by omega)).1 (HIN.out j (by omega)).2 (fun e => HNE.out i j hi hj e.symm)
 have HMA : Hid (∀ i j : Nat, j < l.length → _) := hid fun i j h => min_at (pairN m) (l := l) (i := i) (j := j) h
 have HST : Hid (∀ (K : Nat) w, Ints w ad cap m.sw → Ints w al cl l → K ≤ 4096 → _) := hid fun K w h h2 hK => rSteps_any m ad cap al cl l K w h h2 hg0 hg hl hn (by omega)
 have HNW : Hid (∀ (K : Nat) a c w, Ints w a c (l.map fun s => itM m s K) → _) := hid fun K a c w h => rNow_any m ad cap a c (l.map fun s => itM m s K) w h hg0 hg (fun x hx => by
  obtain ⟨y, hy, rfl⟩ := List.mem_map.1 hx
  exact itM_rng (hl y hy).1 (hl y hy).2 K) (by simpa using hn) (by
  rw [List.nodup_iff_pairwise_ne, List.pairwise_map]
  refine (List.nodup_iff_pairwise_ne.1 hnd).imp_of_mem fun {x y} hx hy hxy e => hxy (itM_inj (hl x hx).1 (hl x hx).2 (hl y hy).1 (hl y hy).2 K e))
 have H4096 : Hid (∀ v, firstM m l = some v → v.1 ≤ 4096) := hid fun v hv => by
  obtain ⟨_, s2⟩ := foldF_spec m (pairsTo l l.length) none
  obtain ⟨_, _, k3⟩ := s2 _ hv
  rcases k3 with k3 | ⟨p, hp, e⟩
  ·cases k3
  ·obtain ⟨i, j, hji, hi, rfl⟩ := (pairsTo_mem (Nat.le_refl _)).1 hp
   obtain ⟨L, hL0, hL1, hLa, hLb⟩ := meet_per2 hg (HIN.out i hi).1 (HIN.out i hi).2 (HIN.out j (by omega)).1 (HIN.out j (by omega)).2
   have hs := meetM_spec m (atD 0 l i) (atD 0 l j)
   dsimp only at e
   rw [e] at hs
   obtain ⟨t1, _, t3⟩ := hs
   by_cases h : v.1 ≤ 4096
   ·exact h
   ·have hN := meet_none (m := m) hL0 hLa hLb (fun k hk => t3 k (by omega))
    have := (meetM_spec m (atD 0 l i) (atD 0 l j)).eq hN
    rw [e] at this; cases this
 have HE : Hid (meetN m l = minF (pairN m) (pairsTo l l.length)) := hid rfl
 have HN0 : Hid (firstM m l = none → meetN m l = -1) := hid meet_refN
 have HN1 : Hid (∀ v, firstM m l = some v → meetN m l = v.1 ∧ nowM m (l.map fun s => itM m s v.1) = v.2) := hid fun v hv => meet_refS hv
 generalize firstM m l = ff at HN0 HN1 H4096 ⊢
 obtain ⟨RR, hRR⟩ : ∃ RR : Value, RR = meetV ff := ⟨_, rfl⟩
 have HRR := hid hRR
 rw [← hRR]
 clear hl hnd hRR
 obtain ⟨F, hF⟩ : ∃ F : List (Int × Int) → Int, ∀ ps, F ps = minF (pairN m) ps := ⟨_, fun _ => rfl⟩
 have HF := hid hF
 clear hF
 have hF0 : F (pairsTo l 0) = -1 := by rw [HF.out]; rfl
 have HF0 := hid hF0
 clear hF0
 go_enter Tryz.func46, Tryz.ntmps46
 go_wp2_with fail
 go_loopw [6, 7, 8, 9] (fun bo i _ _ wr => ∃ k : Nat, k ≤ l.length ∧ bo = .int .i64 (F (pairsTo l k)) ∧ i = .int .i64 k ∧ SL w.heap.size w wr [pBlk w.heap.size (.cells (mC m ad cap) 27)]) (fun _ i _ _ _ => l.length - (intOf i).toNat)
 case atStart => exact ⟨0, by omega, by rw [HF0.out], rfl, hS⟩
 case round =>
  clear hS
  obtain ⟨k, hk, rfl, rfl, hSr⟩ := hrel
  by_cases hlt : k < l.length
  ·go_wp2_with fail
   go_loopw [6, 8, 9] (fun bo i _ wq => ∃ j : Nat, j ≤ k ∧ bo = .int .i64 (F (pairsAt l k j)) ∧ i = .int .i64 j ∧ SL w.heap.size w wq [pBlk w.heap.size (.cells (mC m ad cap) 27)]) (fun _ i _ _ => k - (intOf i).toNat)
   case atStart => exact ⟨0, by omega, by rw [pairsAt_zero], rfl, hSr⟩
   case round =>
    clear hSr
    obtain ⟨j, hj, rfl, rfl, hSq⟩ := hrel
    by_cases hjk : j < k
    ·have hst := HMA.out k j (by omega)
     rw [← HF.out, ← HF.out] at hst
     have CC := fun w h => HCA.out k j w h hlt hjk
     obtain ⟨Q, hQ⟩ : ∃ Q, Q = pairN m (atD 0 l k, atD 0 l j) := ⟨_, rfl⟩
     rw [← hQ] at hst CC
     obtain ⟨X, hX⟩ : ∃ X, X = atD 0 l k := ⟨_, rfl⟩
     obtain ⟨Y, hY⟩ : ∃ Y, Y = atD 0 l j := ⟨_, rfl⟩
     obtain ⟨B, hB⟩ : ∃ B, B = F (pairsAt l k j) := ⟨_, rfl⟩
     rw [← hB] at hst ⊢
     rw [← hX] at CC
     rw [← hY] at CC
     have HX := hid hX; have HY := hid hY; have HC := hid CC
     have hLq := hL.below hSq.b
     have hRq := hR.below hSq.b
     have q2 := (hSq.blk 0 rfl).1
     have hkl : (k : Int) < l.length := by omega
     have hjl : (j : Int) < l.length := by omega
     clear CC hX hY hB hQ
     by_cases hQ0 : 0 ≤ Q
     ·have hqd : decide (0 ≤ Q) = true := decide_eq_true hQ0
      by_cases hB0 : B < 0
      ·rw [if_pos ⟨hQ0, .inl hB0⟩] at hst
       have hbd : decide (B < 0) = true := decide_eq_true hB0
       have HST := hid hst
       clear hst hB0 hQ0
       go_wp2_with fail
       refine wp_region_q kR kR ?_
       repeat (first | ((with_reducible refine wpB_loadS (n := 4) (us := mC m ad cap) A_rmach kR wU wU (by assumption) wU wU ?_); (try simp only [Act.put, pA, pB, pC])) | (((with_reducible refine wpB_idxW 0 E_ints F_int cInt1 wU (rfl) wU (hLq) oD oD (fun _ => wU) wU (fun _ => wU) (fun _ => ?_)); (try simp only [Act.put, pA, pB, pC]); (try simp only [cInt])); first | rw [← HX.out] | rw [← HY.out]) | ((with_reducible refine wpB_call (.int .i64 Q) wU (fun w' => ?_) (fun w' hw' => HC.out w' (hRq.below hw')) ?_); (focus (go_simp; done)); (try simp only [Act.put, pA, pB, pC])) |  ((with_reducible refine wpB_load (by first | exact F_int | fail) wU wU (by assumption) wU ?_); (try simp only [Act.put, pA, pB, pC])) | ((with_reducible refine wpB_loadS (n := 2) (us := #[_, _]) (by fail) kR wU wU (by assumption) wU wU ?_); (try simp only [Act.put, pA, pB, pC])) | ((with_reducible refine wpB_loadS (n := 4) (us := #[_, _, _, _]) (by fail) kR wU wU (by assumption) wU wU ?_); (try simp only [Act.put, pA, pB, pC])) | ((refine wpQ_oneG ?_ wU (fun w' => ?_) ?_); rotate_left; (go_simp; rfl); (try simp only [Act.put, pA, pB, pC])))
       refine wpQuiet_nil ?_
       intro w5 hb5
       have hS5 := hSq.mono hb5
       clear q2
       go_wp2_with fail
       exact ⟨⟨j + 1, by omega, by rw [HST.out], by go_num, hS5⟩, by simp [intOf]; omega⟩
      ·have hbd : decide (B < 0) = false := decide_eq_false hB0
       by_cases hPB : Q < B
       ·rw [if_pos ⟨hQ0, .inr hPB⟩] at hst
        have hpd : decide (Q < B) = true := decide_eq_true hPB
        have HST := hid hst
        clear hst hB0 hPB hQ0
        go_wp2_with fail
        refine wp_region_q kR kR ?_
        repeat (first | ((with_reducible refine wpB_loadS (n := 4) (us := mC m ad cap) A_rmach kR wU wU (by assumption) wU wU ?_); (try simp only [Act.put, pA, pB, pC])) | (((with_reducible refine wpB_idxW 0 E_ints F_int cInt1 wU (rfl) wU (hLq) oD oD (fun _ => wU) wU (fun _ => wU) (fun _ => ?_)); (try simp only [Act.put, pA, pB, pC]); (try simp only [cInt])); first | rw [← HX.out] | rw [← HY.out]) | ((with_reducible refine wpB_call (.int .i64 Q) wU (fun w' => ?_) (fun w' hw' => HC.out w' (hRq.below hw')) ?_); (focus (go_simp; done)); (try simp only [Act.put, pA, pB, pC])) |  ((with_reducible refine wpB_load (by first | exact F_int | fail) wU wU (by assumption) wU ?_); (try simp only [Act.put, pA, pB, pC])) | ((with_reducible refine wpB_loadS (n := 2) (us := #[_, _]) (by fail) kR wU wU (by assumption) wU wU ?_); (try simp only [Act.put, pA, pB, pC])) | ((with_reducible refine wpB_loadS (n := 4) (us := #[_, _, _, _]) (by fail) kR wU wU (by assumption) wU wU ?_); (try simp only [Act.put, pA, pB, pC])) | ((refine wpQ_oneG ?_ wU (fun w' => ?_) ?_); rotate_left; (go_simp; rfl); (try simp only [Act.put, pA, pB, pC])))
        refine wpQuiet_nil ?_
        intro w5 hb5
        have hS5 := hSq.mono hb5
        clear q2
        go_wp2_with fail
        exact ⟨⟨j + 1, by omega, by rw [HST.out], by go_num, hS5⟩, by simp [intOf]; omega⟩
       ·rw [if_neg (fun h => by rcases h.2 with h | h; exact hB0 h; exact hPB h)] at hst
        have hpd : decide (Q < B) = false := decide_eq_false hPB
        have HST := hid hst
        clear hst hB0 hPB hQ0
        go_wp2_with fail
        refine wp_region_q kR kR ?_
        repeat (first | ((with_reducible refine wpB_loadS (n := 4) (us := mC m ad cap) A_rmach kR wU wU (by assumption) wU wU ?_); (try simp only [Act.put, pA, pB, pC])) | (((with_reducible refine wpB_idxW 0 E_ints F_int cInt1 wU (rfl) wU (hLq) oD oD (fun _ => wU) wU (fun _ => wU) (fun _ => ?_)); (try simp only [Act.put, pA, pB, pC]); (try simp only [cInt])); first | rw [← HX.out] | rw [← HY.out]) | ((with_reducible refine wpB_call (.int .i64 Q) wU (fun w' => ?_) (fun w' hw' => HC.out w' (hRq.below hw')) ?_); (focus (go_simp; done)); (try simp only [Act.put, pA, pB, pC])) |  ((with_reducible refine wpB_load (by first | exact F_int | fail) wU wU (by assumption) wU ?_); (try simp only [Act.put, pA, pB, pC])) | ((with_reducible refine wpB_loadS (n := 2) (us := #[_, _]) (by fail) kR wU wU (by assumption) wU wU ?_); (try simp only [Act.put, pA, pB, pC])) | ((with_reducible refine wpB_loadS (n := 4) (us := #[_, _, _, _]) (by fail) kR wU wU (by assumption) wU wU ?_); (try simp only [Act.put, pA, pB, pC])) | ((refine wpQ_oneG ?_ wU (fun w' => ?_) ?_); rotate_left; (go_simp; rfl); (try simp only [Act.put, pA, pB, pC])))
        refine wpQuiet_nil ?_
        intro w5 hb5
        have hS5 := hSq.mono hb5
        clear q2
        go_wp2_with fail
        exact ⟨⟨j + 1, by omega, by rw [HST.out], by go_num, hS5⟩, by simp [intOf]; omega⟩
     ·have hqd : decide (0 ≤ Q) = false := decide_eq_false hQ0
      rw [if_neg (fun h => hQ0 h.1)] at hst
      have HST := hid hst
      clear hst hQ0
      go_wp2_with fail
      refine wp_region_q kR kR ?_
      repeat (first | ((with_reducible refine wpB_loadS (n := 4) (us := mC m ad cap) A_rmach kR wU wU (by assumption) wU wU ?_); (try simp only [Act.put, pA, pB, pC])) | (((with_reducible refine wpB_idxW 0 E_ints F_int cInt1 wU (rfl) wU (hLq) oD oD (fun _ => wU) wU (fun _ => wU) (fun _ => ?_)); (try simp only [Act.put, pA, pB, pC]); (try simp only [cInt])); first | rw [← HX.out] | rw [← HY.out]) | ((with_reducible refine wpB_call (.int .i64 Q) wU (fun w' => ?_) (fun w' hw' => HC.out w' (hRq.below hw')) ?_); (focus (go_simp; done)); (try simp only [Act.put, pA, pB, pC])) |  ((with_reducible refine wpB_load (by first | exact F_int | fail) wU wU (by assumption) wU ?_); (try simp only [Act.put, pA, pB, pC])) | ((with_reducible refine wpB_loadS (n := 2) (us := #[_, _]) (by fail) kR wU wU (by assumption) wU wU ?_); (try simp only [Act.put, pA, pB, pC])) | ((with_reducible refine wpB_loadS (n := 4) (us := #[_, _, _, _]) (by fail) kR wU wU (by assumption) wU wU ?_); (try simp only [Act.put, pA, pB, pC])) | ((refine wpQ_oneG ?_ wU (fun w' => ?_) ?_); rotate_left; (go_simp; rfl); (try simp only [Act.put, pA, pB, pC])))
      refine wpQuiet_nil ?_
      intro w5 hb5
      have hS5 := hSq.mono hb5
      clear q2
      go_wp2_with fail
      exact ⟨⟨j + 1, by omega, by rw [HST.out], by go_num, hS5⟩, by simp [intOf]; omega⟩
    ·have hjk2 : j = k := by omega
     subst hjk2
     go_wp2_with fail
     exact ⟨⟨j + 1, by omega, by rw [pairsAt_last], by go_num, hSq⟩, by simp [intOf]; omega⟩
  ·have hkn : k = l.length := by omega
   subst hkn
   have hfe : F (pairsTo l l.length) = meetN m l := by rw [HF.out, HE.out]
   rw [hfe]
   clear hfe
   cases ff with
   | none =>
    rw [HN0.out rfl]
    have hr : RR = .tuple #[.int .i64 (-1), .int .i64 0] := HRR.out
    have HR2 := hid hr
    clear hr
    go_wp2_with fail
    go_ret2
    exact ⟨by rw [HR2.out]; rfl, hSr.b⟩
   | some v =>
    obtain ⟨n1, n2⟩ := HN1.out v rfl
    have n3 := H4096.out v rfl
    rw [n1]
    have CST := fun w h h2 => HST.out v.1 w h h2 n3
    have CNW := fun a c w h => HNW.out v.1 a c w h
    simp only [n2] at CNW
    obtain ⟨NL, hNL⟩ : ∃ NL, NL = l.map fun s => itM m s v.1 := ⟨_, rfl⟩
    rw [← hNL] at CST
    simp only [← hNL] at CNW
    have hr : RR = .tuple #[.int .i64 v.1, .int .i64 v.2] := HRR.out
    have HNL : Hid (NL.length = l.length) := hid (by rw [hNL]; simp)
    obtain ⟨N, Pl⟩ := v
    dsimp only at hr CST CNW n3
    have HR2 := hid hr; have HS2 := hid CST; have HW2 := hid CNW
    have hNd : decide ((N : Int) < 0) = false := by simp
    have q2 := (hSr.blk 0 rfl).1
    have hRr := hR.below hSr.b
    have hLr := hL.below hSr.b
    clear hr CST CNW n1 n2 hNL
    go_wp2_with fail
    refine wp_regionK (C := (fun V => Below w.heap.size w V ∧ V.heap[w.heap.size]? = some (.cells (mC m ad cap) 27))) [0, 1, 2, 3, 4] [_, _, _, _, _] 4 (by simp only [List.map_cons, List.map_nil, List.getElem?_toArray]; rfl) rfl kR kR kR (⟨hSr.b.drew, q2⟩) ?_
    refine ⟨_, yieldsK_val wU (fun w' => by with_unfolding_all exact rfl), ?_⟩
    go_frame
    refine ⟨_, yieldsK_blkC (n := 4) A_rmach kR (fun V h => h.2) rfl wU wU, ?_⟩
    go_frame
    refine ⟨_, yieldsK_blkC (n := 4) A_rmach kR (fun V h => h.2) rfl wU wU, ?_⟩
    go_frame
    refine ⟨_, yieldsK_val wU (fun w' => by with_unfolding_all exact rfl), ?_⟩
    go_frame
    refine ⟨_, yieldsK_val wU (fun w' => by with_unfolding_all exact rfl), ?_⟩
    go_frame
    unfold wpPureK
    have hVd : ({ wr with drawn := wr.drawn + 1 } : World) = wr.drew := rfl
    rw [hVd]
    have b2 : Below wr.heap.size wr wr.drew := (Below.refl _ _).drew
    refine wpAnyC_on [5] kR (by simp) ?_
    simp only [List.forall_mem_cons, List.not_mem_nil, false_implies, implies_true, and_true]
    refine wpOp_call (f := 101) (args := #[mV m ad cap, .slice al l.length cl, .int .i64 N]) (by rw [List.getElem?_toArray]; rfl) wU (by first | (go_simp; done) | (simp [execOp, Act.eval, Result.andThen]; done) | (simp [execOp, Act.eval, Result.andThen]; rfl)) ?_
    refine (HS2.out _ (hRr.below b2) (hLr.below b2)).mono ?_
    rintro e w3 ⟨v3, rfl, ho3, b3⟩
    obtain ⟨a3, c3, rfl, h3, _, _⟩ := ho3.reps
    have hS3 := hSr.drew.mono b3
    refine ⟨_, rfl, ⟨hS3.b, (hS3.blk 0 rfl).1⟩, ?_⟩
    go_frame
    refine wpAnyC_on [6] kR (by simp) ?_
    simp only [List.forall_mem_cons, List.not_mem_nil, false_implies, implies_true, and_true]
    refine wpOp_call (f := 100) (args := #[mV m ad cap, .slice a3 NL.length c3]) (by rw [List.getElem?_toArray]; rfl) wU (by first | (go_simp; done) | (simp [execOp, Act.eval, Result.andThen]; done) | (simp [execOp, Act.eval, Result.andThen]; rfl)) ?_
    refine (HW2.out a3 c3 _ h3).mono ?_
    rintro e w4 ⟨rfl, b4⟩
    have hS4 := hS3.mono b4
    refine ⟨_, rfl, ⟨hS4.b, (hS4.blk 0 rfl).1⟩, ?_⟩
    go_frame
    refine wpAnyC_rest [7, 8] [_, _] rfl (by simp only [List.map_cons, List.map_nil, List.getElem?_toArray]; rfl) kR kR kR (⟨hS4.b, (hS4.blk 0 rfl).1⟩) ?_
    repeat (refine ⟨_, .inl ⟨by with_unfolding_all rfl, fun w' _ => by with_unfolding_all exact rfl⟩, ?_⟩; go_frame)
    unfold wpPure
    refine of_wpList_nil (P := Tryz.prog) (ops := #[]) ?_
    go_wp2_with fail
    go_ret2
    exact ⟨by rw [HR2.out]; rfl, hS4.b⟩
end Go.Proofs.YtglpfpdomnllkaaGreat

namespace Go.Proofs.YtglpfpdomnllkaaGreat
open Go.RowKit
set_option maxHeartbeats 8000000
set_option maxRecDepth 100000
/-- a machine with a load is valid, with at most some gears and carriers. -/
def Fits (m : MacV) (l : List Int) (g c : Int) : Prop := (m.sw.length ≤ 19 ∧ l.length ≤ 67) ∧ m.gears ≤ g ∧ (l.length : Int) ≤ c ∧ loadE m l = 0
end Go.Proofs.YtglpfpdomnllkaaGreat

namespace Go.Proofs.YtglpfpdomnllkaaGreat
open Go.RowKit
set_option maxHeartbeats 1000000
set_option maxRecDepth 100000

/-- digits to the base 10^9 of a small number. -/
def wD (n : Nat) : List Int := if n = 0 then [] else [(n : Int)]
end Go.Proofs.YtglpfpdomnllkaaGreat

namespace Go.Proofs.YtglpfpdomnllkaaGreat
open Go.RowKit
set_option maxHeartbeats 2000000
set_option maxRecDepth 100000

end Go.Proofs.YtglpfpdomnllkaaGreat

namespace Go.Proofs.YtglpfpdomnllkaaGreat
open Go.RowKit
set_option maxHeartbeats 2000000
set_option maxRecDepth 100000

/-- an integer of the reference that is not negative, and small. -/
def NatR (w : World) (v : Value) (n : Nat) : Prop := ∃ a cap, v = .agg #[.bool false, .slice a (wD n).length cap] ∧ Ints w a cap (wD n)
theorem NatR.below {w w' : World} {v : Value} {n : Nat} (h : NatR w v n) (hb : Below w.heap.size w w') : NatR w' v n := by
 obtain ⟨a, cap, h1, h2⟩ := h; exact ⟨a, cap, h1, h2.below hb⟩

end Go.Proofs.YtglpfpdomnllkaaGreat

namespace Go.Proofs.YtglpfpdomnllkaaGreat
open Go.RowKit
set_option maxHeartbeats 2000000
set_option maxRecDepth 100000

end Go.Proofs.YtglpfpdomnllkaaGreat

namespace Go.Proofs.YtglpfpdomnllkaaGreat
open Go.RowKit
set_option maxRecDepth 100000

def isDig (b : UInt8) : Prop := 48 ≤ b.toNat ∧ b.toNat ≤ 57
instance (b : UInt8) : Decidable (isDig b) := inferInstanceAs (Decidable (_ ∧ _))
/-- a decimal number without zeros ahead. -/
def canon (l : List UInt8) : Prop := l ≠ [] ∧ (1 < l.length → l.head? ≠ some 48) ∧ ∀ b ∈ l, isDig b
instance (l : List UInt8) : Decidable (canon l) := inferInstanceAs (Decidable (_ ∧ _ ∧ _))
def both (a b : Option Nat) : Option (Int × Int) := match a, b with | some x, some y => some (x, y) | _, _ => none
end Go.Proofs.YtglpfpdomnllkaaGreat

namespace Go.Proofs.YtglpfpdomnllkaaGreat
open Go.RowKit
set_option maxHeartbeats 4000000
set_option maxRecDepth 100000

/-- a text's answer: the moves, the number of a word, the error. -/
def RetT (W : World) (R : List (Int × Int) × Int × Int) (r : Ending) (w' : World) : Prop :=
 ∃ a cap, r = .returned (.tuple #[.slice a R.1.length cap, .int .i64 R.2.1, .int .i64 R.2.2]) ∧ Pairs w' a cap R.1 ∧ Below W.heap.size W w'
theorem RetT.none {W w' : World} {R : List (Int × Int) × Int × Int} {r : Ending} {k e : Int} (hR : R = ([], k, e)) (h1 : r = .returned (.tuple #[.slice none 0 0, .int .i64 k, .int .i64 e])) (hb : Below W.heap.size W w') : RetT W R r w' := by
 subst hR; exact ⟨.none, 0, h1, pairs_nil _, hb⟩
end Go.Proofs.YtglpfpdomnllkaaGreat

namespace Go.Proofs.YtglpfpdomnllkaaGreat
open Go.RowKit
set_option maxHeartbeats 4000000
set_option maxRecDepth 100000

end Go.Proofs.YtglpfpdomnllkaaGreat

namespace Go.Proofs.YtglpfpdomnllkaaGreat
open Go.RowKit
set_option maxHeartbeats 4000000
set_option maxRecDepth 100000

section
variable {P : Program} {ops : Array Oper} {rest : List Oper} {a : Act} {Qa : Act → Prop} {α : Type} {c : α → Value} {sz bytes : Nat} {t e t2 e2 : TypeId} {z : Value} {ad : Option Addr} {cap : Nat} {l : List α} {k : Int} {w : World}
 {d1 d2 d3 : Tmp} {ty1 ty2 ty3 : TypeId} {p1 p2 p3 : String} {s x : Operand} {af1 af2 af3 : Array Edge} {j : Nat}
end

end Go.Proofs.YtglpfpdomnllkaaGreat

namespace Go.Proofs.YtglpfpdomnllkaaGreat
open Go.RowKit
set_option maxRecDepth 100000

section
open Go.ChangeMaps
variable {H : Type} {enc : TypeId × Value → H} {W : World}
end
end Go.Proofs.YtglpfpdomnllkaaGreat

namespace Go.Proofs.YtglpfpdomnllkaaGreat
open Go.RowKit
set_option maxHeartbeats 8000000
set_option maxRecDepth 100000

/-- a machine and an error came back. -/
def RetMac (W : World) (m : MacV) (e : Int) (r : Ending) (w' : World) : Prop := ∃ a c, r = .returned (.tuple #[mV m a c, .int .i64 e]) ∧ SL W.heap.size W w' [pOwn cInt 1 3 (.slice a m.sw.length c) m.sw]
section
variable {ops : Array Oper} {rest : List Oper} {a : Act} {Q : Exit → Act → World → Prop} {w0 w : World} {L : List Pc} {B : Nat} {ty : TypeId} {p : String} {af : Array Edge}
end
end Go.Proofs.YtglpfpdomnllkaaGreat

namespace Go.Proofs.YtglpfpdomnllkaaGreat
open Go.RowKit
set_option maxHeartbeats 8000000
set_option maxRecDepth 100000

theorem cm_a00 (m : MacV) (ad : Option Addr) (cap : Nat) (w : World) (hR : Ints w ad cap m.sw) (hI : -9223372036854775808 ≤ m.gears ∧ m.gears ≤ 9223372036854775807) (hr : m.ring = false) (q : Int) (hq : m.gears.tmod 2 = q) (hd1 : decide (m.gears < 1) = true) (ht : (m.turn != 1) = false) (HV : Hid (macE m = 3)) :
  Calls Tryz.prog 111 #[mV m ad cap] w fun r w' => r = .returned (.int .i64 (macE m)) ∧ Below w.heap.size w w' := by
 have hcap := hR.le
 have hmx := hR.max
 unfold mV
 rw [hr]
 clear hr
 go_enter Tryz.func111, Tryz.ntmps111
 go_wp2_with fail
 have hS := (SL.nil w).box (.cells #[.bool false, .int .i64 m.gears, .int .i64 m.turn, .slice ad m.sw.length cap] 24)
 have q1 := (hS.blk 0 rfl).1
 refine wp_region_qt 34 kR kR ?_
 simp only [List.take_succ_cons, List.take_zero, List.drop_succ_cons, List.drop_zero]
 repeat (first | ((with_reducible refine wpB_load F_boolM wU wU q1 wU ?_); (try simp only [Act.put, pA, pB, pC])) | ((with_reducible refine wpB_load F_sliceM wU wU q1 wU ?_); (try simp only [Act.put, pA, pB, pC])) | ((with_reducible refine wpB_when wU wU wU ?_); (try simp only [Act.put, pA, pB, pC])) | ((with_reducible refine wpQ_skip wU ?_); (try simp only [Act.put, pA, pB, pC])) |  ((with_reducible refine wpB_load (by first | exact F_int | fail) wU wU (by assumption) wU ?_); (try simp only [Act.put, pA, pB, pC])) | ((with_reducible refine wpB_loadS (n := 2) (us := #[_, _]) (by fail) kR wU wU (by assumption) wU wU ?_); (try simp only [Act.put, pA, pB, pC])) | ((with_reducible refine wpB_loadS (n := 4) (us := #[_, _, _, _]) (by fail) kR wU wU (by assumption) wU wU ?_); (try simp only [Act.put, pA, pB, pC])) | ((refine wpQ_oneG ?_ wU (fun w' => ?_) ?_); rotate_left; (go_simp; rfl); (try simp only [Act.put, pA, pB, pC])))
 refine wpQuiet_nil ?_
 intro w1 hb1
 have hS1 := hS.mono hb1
 go_wp2_with (go_at_call 55; refine (mfirst_any _ _ [_, _, _, _] _ (reps_newN cIntS [_, _, _, _] 4 rfl (by decide) _ _ (by simp) rfl)).mono ?_; rw [firstE_head (by decide)]; rintro e w' ⟨rfl, rfl⟩)
 all_goals go_ret
 all_goals exact ⟨by rw [HV.out]; rfl, bal hS1.b _⟩
theorem cm_b00 (m : MacV) (ad : Option Addr) (cap : Nat) (w : World) (hR : Ints w ad cap m.sw) (hI : -9223372036854775808 ≤ m.gears ∧ m.gears ≤ 9223372036854775807) (hr : m.ring = false) (q : Int) (hq : m.gears.tmod 2 = q) (n1 : decide (m.gears < 1) = false) (hd2 : decide (16 < m.gears) = true) (ht : (m.turn != 1) = false) (HV : Hid (macE m = 3)) :
  Calls Tryz.prog 111 #[mV m ad cap] w fun r w' => r = .returned (.int .i64 (macE m)) ∧ Below w.heap.size w w' := by
 have hcap := hR.le
 have hmx := hR.max
 unfold mV
 rw [hr]
 clear hr
 go_enter Tryz.func111, Tryz.ntmps111
 go_wp2_with fail
 have hS := (SL.nil w).box (.cells #[.bool false, .int .i64 m.gears, .int .i64 m.turn, .slice ad m.sw.length cap] 24)
 have q1 := (hS.blk 0 rfl).1
 refine wp_region_qt 34 kR kR ?_
 simp only [List.take_succ_cons, List.take_zero, List.drop_succ_cons, List.drop_zero]
 repeat (first | ((with_reducible refine wpB_load F_boolM wU wU q1 wU ?_); (try simp only [Act.put, pA, pB, pC])) | ((with_reducible refine wpB_load F_sliceM wU wU q1 wU ?_); (try simp only [Act.put, pA, pB, pC])) | ((with_reducible refine wpB_when wU wU wU ?_); (try simp only [Act.put, pA, pB, pC])) | ((with_reducible refine wpQ_skip wU ?_); (try simp only [Act.put, pA, pB, pC])) |  ((with_reducible refine wpB_load (by first | exact F_int | fail) wU wU (by assumption) wU ?_); (try simp only [Act.put, pA, pB, pC])) | ((with_reducible refine wpB_loadS (n := 2) (us := #[_, _]) (by fail) kR wU wU (by assumption) wU wU ?_); (try simp only [Act.put, pA, pB, pC])) | ((with_reducible refine wpB_loadS (n := 4) (us := #[_, _, _, _]) (by fail) kR wU wU (by assumption) wU wU ?_); (try simp only [Act.put, pA, pB, pC])) | ((refine wpQ_oneG ?_ wU (fun w' => ?_) ?_); rotate_left; (go_simp; rfl); (try simp only [Act.put, pA, pB, pC])))
 refine wpQuiet_nil ?_
 intro w1 hb1
 have hS1 := hS.mono hb1
 go_wp2_with (go_at_call 55; refine (mfirst_any _ _ [_, _, _, _] _ (reps_newN cIntS [_, _, _, _] 4 rfl (by decide) _ _ (by simp) rfl)).mono ?_; rw [firstE_head (by decide)]; rintro e w' ⟨rfl, rfl⟩)
 all_goals go_ret
 all_goals exact ⟨by rw [HV.out]; rfl, bal hS1.b _⟩
theorem cm_a01 (m : MacV) (ad : Option Addr) (cap : Nat) (w : World) (hR : Ints w ad cap m.sw) (hI : -9223372036854775808 ≤ m.gears ∧ m.gears ≤ 9223372036854775807) (hr : m.ring = false) (q : Int) (hq : m.gears.tmod 2 = q) (hd1 : decide (m.gears < 1) = true) (ht : (m.turn != 1) = true) (HV : Hid (macE m = 3)) :
  Calls Tryz.prog 111 #[mV m ad cap] w fun r w' => r = .returned (.int .i64 (macE m)) ∧ Below w.heap.size w w' := by
 have hcap := hR.le
 have hmx := hR.max
 unfold mV
 rw [hr]
 clear hr
 go_enter Tryz.func111, Tryz.ntmps111
 go_wp2_with fail
 have hS := (SL.nil w).box (.cells #[.bool false, .int .i64 m.gears, .int .i64 m.turn, .slice ad m.sw.length cap] 24)
 have q1 := (hS.blk 0 rfl).1
 refine wp_region_qt 34 kR kR ?_
 simp only [List.take_succ_cons, List.take_zero, List.drop_succ_cons, List.drop_zero]
 repeat (first | ((with_reducible refine wpB_load F_boolM wU wU q1 wU ?_); (try simp only [Act.put, pA, pB, pC])) | ((with_reducible refine wpB_load F_sliceM wU wU q1 wU ?_); (try simp only [Act.put, pA, pB, pC])) | ((with_reducible refine wpB_when wU wU wU ?_); (try simp only [Act.put, pA, pB, pC])) | ((with_reducible refine wpQ_skip wU ?_); (try simp only [Act.put, pA, pB, pC])) |  ((with_reducible refine wpB_load (by first | exact F_int | fail) wU wU (by assumption) wU ?_); (try simp only [Act.put, pA, pB, pC])) | ((with_reducible refine wpB_loadS (n := 2) (us := #[_, _]) (by fail) kR wU wU (by assumption) wU wU ?_); (try simp only [Act.put, pA, pB, pC])) | ((with_reducible refine wpB_loadS (n := 4) (us := #[_, _, _, _]) (by fail) kR wU wU (by assumption) wU wU ?_); (try simp only [Act.put, pA, pB, pC])) | ((refine wpQ_oneG ?_ wU (fun w' => ?_) ?_); rotate_left; (go_simp; rfl); (try simp only [Act.put, pA, pB, pC])))
 refine wpQuiet_nil ?_
 intro w1 hb1
 have hS1 := hS.mono hb1
 go_wp2_with (go_at_call 55; refine (mfirst_any _ _ [_, _, _, _] _ (reps_newN cIntS [_, _, _, _] 4 rfl (by decide) _ _ (by simp) rfl)).mono ?_; rw [firstE_head (by decide)]; rintro e w' ⟨rfl, rfl⟩)
 all_goals go_ret
 all_goals exact ⟨by rw [HV.out]; rfl, bal hS1.b _⟩
theorem cm_b01 (m : MacV) (ad : Option Addr) (cap : Nat) (w : World) (hR : Ints w ad cap m.sw) (hI : -9223372036854775808 ≤ m.gears ∧ m.gears ≤ 9223372036854775807) (hr : m.ring = false) (q : Int) (hq : m.gears.tmod 2 = q) (n1 : decide (m.gears < 1) = false) (hd2 : decide (16 < m.gears) = true) (ht : (m.turn != 1) = true) (HV : Hid (macE m = 3)) :
  Calls Tryz.prog 111 #[mV m ad cap] w fun r w' => r = .returned (.int .i64 (macE m)) ∧ Below w.heap.size w w' := by
 have hcap := hR.le
 have hmx := hR.max
 unfold mV
 rw [hr]
 clear hr
 go_enter Tryz.func111, Tryz.ntmps111
 go_wp2_with fail
 have hS := (SL.nil w).box (.cells #[.bool false, .int .i64 m.gears, .int .i64 m.turn, .slice ad m.sw.length cap] 24)
 have q1 := (hS.blk 0 rfl).1
 refine wp_region_qt 34 kR kR ?_
 simp only [List.take_succ_cons, List.take_zero, List.drop_succ_cons, List.drop_zero]
 repeat (first | ((with_reducible refine wpB_load F_boolM wU wU q1 wU ?_); (try simp only [Act.put, pA, pB, pC])) | ((with_reducible refine wpB_load F_sliceM wU wU q1 wU ?_); (try simp only [Act.put, pA, pB, pC])) | ((with_reducible refine wpB_when wU wU wU ?_); (try simp only [Act.put, pA, pB, pC])) | ((with_reducible refine wpQ_skip wU ?_); (try simp only [Act.put, pA, pB, pC])) |  ((with_reducible refine wpB_load (by first | exact F_int | fail) wU wU (by assumption) wU ?_); (try simp only [Act.put, pA, pB, pC])) | ((with_reducible refine wpB_loadS (n := 2) (us := #[_, _]) (by fail) kR wU wU (by assumption) wU wU ?_); (try simp only [Act.put, pA, pB, pC])) | ((with_reducible refine wpB_loadS (n := 4) (us := #[_, _, _, _]) (by fail) kR wU wU (by assumption) wU wU ?_); (try simp only [Act.put, pA, pB, pC])) | ((refine wpQ_oneG ?_ wU (fun w' => ?_) ?_); rotate_left; (go_simp; rfl); (try simp only [Act.put, pA, pB, pC])))
 refine wpQuiet_nil ?_
 intro w1 hb1
 have hS1 := hS.mono hb1
 go_wp2_with (go_at_call 55; refine (mfirst_any _ _ [_, _, _, _] _ (reps_newN cIntS [_, _, _, _] 4 rfl (by decide) _ _ (by simp) rfl)).mono ?_; rw [firstE_head (by decide)]; rintro e w' ⟨rfl, rfl⟩)
 all_goals go_ret
 all_goals exact ⟨by rw [HV.out]; rfl, bal hS1.b _⟩
theorem cm_a10 (m : MacV) (ad : Option Addr) (cap : Nat) (w : World) (hR : Ints w ad cap m.sw) (hI : -9223372036854775808 ≤ m.gears ∧ m.gears ≤ 9223372036854775807) (hr : m.ring = true) (q : Int) (hq : m.gears.tmod 2 = q) (hd1 : decide (m.gears < 1) = true) (ht : (m.turn != 1) = false) (HV : Hid (macE m = 3)) :
  Calls Tryz.prog 111 #[mV m ad cap] w fun r w' => r = .returned (.int .i64 (macE m)) ∧ Below w.heap.size w w' := by
 have hcap := hR.le
 have hmx := hR.max
 unfold mV
 rw [hr]
 clear hr
 go_enter Tryz.func111, Tryz.ntmps111
 go_wp2_with fail
 have hS := (SL.nil w).box (.cells #[.bool true, .int .i64 m.gears, .int .i64 m.turn, .slice ad m.sw.length cap] 24)
 have q1 := (hS.blk 0 rfl).1
 refine wp_region_qt 34 kR kR ?_
 simp only [List.take_succ_cons, List.take_zero, List.drop_succ_cons, List.drop_zero]
 repeat (first | ((with_reducible refine wpB_load F_boolM wU wU q1 wU ?_); (try simp only [Act.put, pA, pB, pC])) | ((with_reducible refine wpB_load F_sliceM wU wU q1 wU ?_); (try simp only [Act.put, pA, pB, pC])) | ((with_reducible refine wpB_when wU wU wU ?_); (try simp only [Act.put, pA, pB, pC])) | ((with_reducible refine wpQ_skip wU ?_); (try simp only [Act.put, pA, pB, pC])) |  ((with_reducible refine wpB_load (by first | exact F_int | fail) wU wU (by assumption) wU ?_); (try simp only [Act.put, pA, pB, pC])) | ((with_reducible refine wpB_loadS (n := 2) (us := #[_, _]) (by fail) kR wU wU (by assumption) wU wU ?_); (try simp only [Act.put, pA, pB, pC])) | ((with_reducible refine wpB_loadS (n := 4) (us := #[_, _, _, _]) (by fail) kR wU wU (by assumption) wU wU ?_); (try simp only [Act.put, pA, pB, pC])) | ((refine wpQ_oneG ?_ wU (fun w' => ?_) ?_); rotate_left; (go_simp; rfl); (try simp only [Act.put, pA, pB, pC])))
 refine wpQuiet_nil ?_
 intro w1 hb1
 have hS1 := hS.mono hb1
 go_wp2_with (go_at_call 55; refine (mfirst_any _ _ [_, _, _, _] _ (reps_newN cIntS [_, _, _, _] 4 rfl (by decide) _ _ (by simp) rfl)).mono ?_; rw [firstE_head (by decide)]; rintro e w' ⟨rfl, rfl⟩)
 all_goals go_ret
 all_goals exact ⟨by rw [HV.out]; rfl, bal hS1.b _⟩
theorem cm_b10 (m : MacV) (ad : Option Addr) (cap : Nat) (w : World) (hR : Ints w ad cap m.sw) (hI : -9223372036854775808 ≤ m.gears ∧ m.gears ≤ 9223372036854775807) (hr : m.ring = true) (q : Int) (hq : m.gears.tmod 2 = q) (n1 : decide (m.gears < 1) = false) (hd2 : decide (16 < m.gears) = true) (ht : (m.turn != 1) = false) (HV : Hid (macE m = 3)) :
  Calls Tryz.prog 111 #[mV m ad cap] w fun r w' => r = .returned (.int .i64 (macE m)) ∧ Below w.heap.size w w' := by
 have hcap := hR.le
 have hmx := hR.max
 unfold mV
 rw [hr]
 clear hr
 go_enter Tryz.func111, Tryz.ntmps111
 go_wp2_with fail
 have hS := (SL.nil w).box (.cells #[.bool true, .int .i64 m.gears, .int .i64 m.turn, .slice ad m.sw.length cap] 24)
 have q1 := (hS.blk 0 rfl).1
 refine wp_region_qt 34 kR kR ?_
 simp only [List.take_succ_cons, List.take_zero, List.drop_succ_cons, List.drop_zero]
 repeat (first | ((with_reducible refine wpB_load F_boolM wU wU q1 wU ?_); (try simp only [Act.put, pA, pB, pC])) | ((with_reducible refine wpB_load F_sliceM wU wU q1 wU ?_); (try simp only [Act.put, pA, pB, pC])) | ((with_reducible refine wpB_when wU wU wU ?_); (try simp only [Act.put, pA, pB, pC])) | ((with_reducible refine wpQ_skip wU ?_); (try simp only [Act.put, pA, pB, pC])) |  ((with_reducible refine wpB_load (by first | exact F_int | fail) wU wU (by assumption) wU ?_); (try simp only [Act.put, pA, pB, pC])) | ((with_reducible refine wpB_loadS (n := 2) (us := #[_, _]) (by fail) kR wU wU (by assumption) wU wU ?_); (try simp only [Act.put, pA, pB, pC])) | ((with_reducible refine wpB_loadS (n := 4) (us := #[_, _, _, _]) (by fail) kR wU wU (by assumption) wU wU ?_); (try simp only [Act.put, pA, pB, pC])) | ((refine wpQ_oneG ?_ wU (fun w' => ?_) ?_); rotate_left; (go_simp; rfl); (try simp only [Act.put, pA, pB, pC])))
 refine wpQuiet_nil ?_
 intro w1 hb1
 have hS1 := hS.mono hb1
 go_wp2_with (go_at_call 55; refine (mfirst_any _ _ [_, _, _, _] _ (reps_newN cIntS [_, _, _, _] 4 rfl (by decide) _ _ (by simp) rfl)).mono ?_; rw [firstE_head (by decide)]; rintro e w' ⟨rfl, rfl⟩)
 all_goals go_ret
 all_goals exact ⟨by rw [HV.out]; rfl, bal hS1.b _⟩
theorem cm_a11 (m : MacV) (ad : Option Addr) (cap : Nat) (w : World) (hR : Ints w ad cap m.sw) (hI : -9223372036854775808 ≤ m.gears ∧ m.gears ≤ 9223372036854775807) (hr : m.ring = true) (q : Int) (hq : m.gears.tmod 2 = q) (hd1 : decide (m.gears < 1) = true) (ht : (m.turn != 1) = true) (HV : Hid (macE m = 3)) :
  Calls Tryz.prog 111 #[mV m ad cap] w fun r w' => r = .returned (.int .i64 (macE m)) ∧ Below w.heap.size w w' := by
 have hcap := hR.le
 have hmx := hR.max
 unfold mV
 rw [hr]
 clear hr
 go_enter Tryz.func111, Tryz.ntmps111
 go_wp2_with fail
 have hS := (SL.nil w).box (.cells #[.bool true, .int .i64 m.gears, .int .i64 m.turn, .slice ad m.sw.length cap] 24)
 have q1 := (hS.blk 0 rfl).1
 refine wp_region_qt 34 kR kR ?_
 simp only [List.take_succ_cons, List.take_zero, List.drop_succ_cons, List.drop_zero]
 repeat (first | ((with_reducible refine wpB_load F_boolM wU wU q1 wU ?_); (try simp only [Act.put, pA, pB, pC])) | ((with_reducible refine wpB_load F_sliceM wU wU q1 wU ?_); (try simp only [Act.put, pA, pB, pC])) | ((with_reducible refine wpB_when wU wU wU ?_); (try simp only [Act.put, pA, pB, pC])) | ((with_reducible refine wpQ_skip wU ?_); (try simp only [Act.put, pA, pB, pC])) |  ((with_reducible refine wpB_load (by first | exact F_int | fail) wU wU (by assumption) wU ?_); (try simp only [Act.put, pA, pB, pC])) | ((with_reducible refine wpB_loadS (n := 2) (us := #[_, _]) (by fail) kR wU wU (by assumption) wU wU ?_); (try simp only [Act.put, pA, pB, pC])) | ((with_reducible refine wpB_loadS (n := 4) (us := #[_, _, _, _]) (by fail) kR wU wU (by assumption) wU wU ?_); (try simp only [Act.put, pA, pB, pC])) | ((refine wpQ_oneG ?_ wU (fun w' => ?_) ?_); rotate_left; (go_simp; rfl); (try simp only [Act.put, pA, pB, pC])))
 refine wpQuiet_nil ?_
 intro w1 hb1
 have hS1 := hS.mono hb1
 go_wp2_with (go_at_call 55; refine (mfirst_any _ _ [_, _, _, _] _ (reps_newN cIntS [_, _, _, _] 4 rfl (by decide) _ _ (by simp) rfl)).mono ?_; rw [firstE_head (by decide)]; rintro e w' ⟨rfl, rfl⟩)
 all_goals go_ret
 all_goals exact ⟨by rw [HV.out]; rfl, bal hS1.b _⟩
theorem cm_b11 (m : MacV) (ad : Option Addr) (cap : Nat) (w : World) (hR : Ints w ad cap m.sw) (hI : -9223372036854775808 ≤ m.gears ∧ m.gears ≤ 9223372036854775807) (hr : m.ring = true) (q : Int) (hq : m.gears.tmod 2 = q) (n1 : decide (m.gears < 1) = false) (hd2 : decide (16 < m.gears) = true) (ht : (m.turn != 1) = true) (HV : Hid (macE m = 3)) :
  Calls Tryz.prog 111 #[mV m ad cap] w fun r w' => r = .returned (.int .i64 (macE m)) ∧ Below w.heap.size w w' := by
 have hcap := hR.le
 have hmx := hR.max
 unfold mV
 rw [hr]
 clear hr
 go_enter Tryz.func111, Tryz.ntmps111
 go_wp2_with fail
 have hS := (SL.nil w).box (.cells #[.bool true, .int .i64 m.gears, .int .i64 m.turn, .slice ad m.sw.length cap] 24)
 have q1 := (hS.blk 0 rfl).1
 refine wp_region_qt 34 kR kR ?_
 simp only [List.take_succ_cons, List.take_zero, List.drop_succ_cons, List.drop_zero]
 repeat (first | ((with_reducible refine wpB_load F_boolM wU wU q1 wU ?_); (try simp only [Act.put, pA, pB, pC])) | ((with_reducible refine wpB_load F_sliceM wU wU q1 wU ?_); (try simp only [Act.put, pA, pB, pC])) | ((with_reducible refine wpB_when wU wU wU ?_); (try simp only [Act.put, pA, pB, pC])) | ((with_reducible refine wpQ_skip wU ?_); (try simp only [Act.put, pA, pB, pC])) |  ((with_reducible refine wpB_load (by first | exact F_int | fail) wU wU (by assumption) wU ?_); (try simp only [Act.put, pA, pB, pC])) | ((with_reducible refine wpB_loadS (n := 2) (us := #[_, _]) (by fail) kR wU wU (by assumption) wU wU ?_); (try simp only [Act.put, pA, pB, pC])) | ((with_reducible refine wpB_loadS (n := 4) (us := #[_, _, _, _]) (by fail) kR wU wU (by assumption) wU wU ?_); (try simp only [Act.put, pA, pB, pC])) | ((refine wpQ_oneG ?_ wU (fun w' => ?_) ?_); rotate_left; (go_simp; rfl); (try simp only [Act.put, pA, pB, pC])))
 refine wpQuiet_nil ?_
 intro w1 hb1
 have hS1 := hS.mono hb1
 go_wp2_with (go_at_call 55; refine (mfirst_any _ _ [_, _, _, _] _ (reps_newN cIntS [_, _, _, _] 4 rfl (by decide) _ _ (by simp) rfl)).mono ?_; rw [firstE_head (by decide)]; rintro e w' ⟨rfl, rfl⟩)
 all_goals go_ret
 all_goals exact ⟨by rw [HV.out]; rfl, bal hS1.b _⟩
theorem cm_c0 (m : MacV) (ad : Option Addr) (cap : Nat) (w : World) (hR : Ints w ad cap m.sw) (hI : -9223372036854775808 ≤ m.gears ∧ m.gears ≤ 9223372036854775807) (hr : m.ring = true) (q : Int) (hq : m.gears.tmod 2 = q) (r1 : 1 ≤ m.gears) (r2 : m.gears ≤ 16) (n1 : decide (m.gears < 1) = false) (n2 : decide (16 < m.gears) = false) (hq1 : (q == 1) = true) (ht : (m.turn != 1) = false) (HV : Hid (macE m = 17)) :
  Calls Tryz.prog 111 #[mV m ad cap] w fun r w' => r = .returned (.int .i64 (macE m)) ∧ Below w.heap.size w w' := by
 have hcap := hR.le
 have hmx := hR.max
 unfold mV
 rw [hr]
 clear hr
 go_enter Tryz.func111, Tryz.ntmps111
 go_wp2_with fail
 have hS := (SL.nil w).box (.cells #[.bool true, .int .i64 m.gears, .int .i64 m.turn, .slice ad m.sw.length cap] 24)
 have q1 := (hS.blk 0 rfl).1
 refine wp_region_qt 34 kR kR ?_
 simp only [List.take_succ_cons, List.take_zero, List.drop_succ_cons, List.drop_zero]
 repeat (first | ((with_reducible refine wpB_load F_boolM wU wU q1 wU ?_); (try simp only [Act.put, pA, pB, pC])) | ((with_reducible refine wpB_load F_sliceM wU wU q1 wU ?_); (try simp only [Act.put, pA, pB, pC])) | ((with_reducible refine wpB_when wU wU wU ?_); (try simp only [Act.put, pA, pB, pC])) | ((with_reducible refine wpQ_skip wU ?_); (try simp only [Act.put, pA, pB, pC])) |  ((with_reducible refine wpB_load (by first | exact F_int | fail) wU wU (by assumption) wU ?_); (try simp only [Act.put, pA, pB, pC])) | ((with_reducible refine wpB_loadS (n := 2) (us := #[_, _]) (by fail) kR wU wU (by assumption) wU wU ?_); (try simp only [Act.put, pA, pB, pC])) | ((with_reducible refine wpB_loadS (n := 4) (us := #[_, _, _, _]) (by fail) kR wU wU (by assumption) wU wU ?_); (try simp only [Act.put, pA, pB, pC])) | ((refine wpQ_oneG ?_ wU (fun w' => ?_) ?_); rotate_left; (go_simp; rfl); (try simp only [Act.put, pA, pB, pC])))
 refine wpQuiet_nil ?_
 intro w1 hb1
 have hS1 := hS.mono hb1
 go_wp2_with (go_at_call 55; refine (mfirst_any _ _ [_, _, _, _] _ (reps_newN cIntS [_, _, _, _] 4 rfl (by decide) _ _ (by simp) rfl)).mono ?_; rw [firstE_z, firstE_head (by decide)]; rintro e w' ⟨rfl, rfl⟩)
 all_goals go_ret
 all_goals exact ⟨by rw [HV.out]; rfl, bal hS1.b _⟩
theorem cm_c1 (m : MacV) (ad : Option Addr) (cap : Nat) (w : World) (hR : Ints w ad cap m.sw) (hI : -9223372036854775808 ≤ m.gears ∧ m.gears ≤ 9223372036854775807) (hr : m.ring = true) (q : Int) (hq : m.gears.tmod 2 = q) (r1 : 1 ≤ m.gears) (r2 : m.gears ≤ 16) (n1 : decide (m.gears < 1) = false) (n2 : decide (16 < m.gears) = false) (hq1 : (q == 1) = true) (ht : (m.turn != 1) = true) (HV : Hid (macE m = 17)) :
  Calls Tryz.prog 111 #[mV m ad cap] w fun r w' => r = .returned (.int .i64 (macE m)) ∧ Below w.heap.size w w' := by
 have hcap := hR.le
 have hmx := hR.max
 unfold mV
 rw [hr]
 clear hr
 go_enter Tryz.func111, Tryz.ntmps111
 go_wp2_with fail
 have hS := (SL.nil w).box (.cells #[.bool true, .int .i64 m.gears, .int .i64 m.turn, .slice ad m.sw.length cap] 24)
 have q1 := (hS.blk 0 rfl).1
 refine wp_region_qt 34 kR kR ?_
 simp only [List.take_succ_cons, List.take_zero, List.drop_succ_cons, List.drop_zero]
 repeat (first | ((with_reducible refine wpB_load F_boolM wU wU q1 wU ?_); (try simp only [Act.put, pA, pB, pC])) | ((with_reducible refine wpB_load F_sliceM wU wU q1 wU ?_); (try simp only [Act.put, pA, pB, pC])) | ((with_reducible refine wpB_when wU wU wU ?_); (try simp only [Act.put, pA, pB, pC])) | ((with_reducible refine wpQ_skip wU ?_); (try simp only [Act.put, pA, pB, pC])) |  ((with_reducible refine wpB_load (by first | exact F_int | fail) wU wU (by assumption) wU ?_); (try simp only [Act.put, pA, pB, pC])) | ((with_reducible refine wpB_loadS (n := 2) (us := #[_, _]) (by fail) kR wU wU (by assumption) wU wU ?_); (try simp only [Act.put, pA, pB, pC])) | ((with_reducible refine wpB_loadS (n := 4) (us := #[_, _, _, _]) (by fail) kR wU wU (by assumption) wU wU ?_); (try simp only [Act.put, pA, pB, pC])) | ((refine wpQ_oneG ?_ wU (fun w' => ?_) ?_); rotate_left; (go_simp; rfl); (try simp only [Act.put, pA, pB, pC])))
 refine wpQuiet_nil ?_
 intro w1 hb1
 have hS1 := hS.mono hb1
 go_wp2_with (go_at_call 55; refine (mfirst_any _ _ [_, _, _, _] _ (reps_newN cIntS [_, _, _, _] 4 rfl (by decide) _ _ (by simp) rfl)).mono ?_; rw [firstE_z, firstE_head (by decide)]; rintro e w' ⟨rfl, rfl⟩)
 all_goals go_ret
 all_goals exact ⟨by rw [HV.out]; rfl, bal hS1.b _⟩
theorem cm_d0 (m : MacV) (ad : Option Addr) (cap : Nat) (w : World) (hR : Ints w ad cap m.sw) (hI : -9223372036854775808 ≤ m.gears ∧ m.gears ≤ 9223372036854775807) (hr : m.ring = false) (q : Int) (hq : m.gears.tmod 2 = q) (r1 : 1 ≤ m.gears) (r2 : m.gears ≤ 16) (n1 : decide (m.gears < 1) = false) (n2 : decide (16 < m.gears) = false)  (ht : (m.turn != 1) = true) (htn : (m.turn != -1) = true) (HV : Hid (macE m = 3)) :
  Calls Tryz.prog 111 #[mV m ad cap] w fun r w' => r = .returned (.int .i64 (macE m)) ∧ Below w.heap.size w w' := by
 have hcap := hR.le
 have hmx := hR.max
 unfold mV
 rw [hr]
 clear hr
 go_enter Tryz.func111, Tryz.ntmps111
 go_wp2_with fail
 have hS := (SL.nil w).box (.cells #[.bool false, .int .i64 m.gears, .int .i64 m.turn, .slice ad m.sw.length cap] 24)
 have q1 := (hS.blk 0 rfl).1
 refine wp_region_qt 34 kR kR ?_
 simp only [List.take_succ_cons, List.take_zero, List.drop_succ_cons, List.drop_zero]
 repeat (first | ((with_reducible refine wpB_load F_boolM wU wU q1 wU ?_); (try simp only [Act.put, pA, pB, pC])) | ((with_reducible refine wpB_load F_sliceM wU wU q1 wU ?_); (try simp only [Act.put, pA, pB, pC])) | ((with_reducible refine wpB_when wU wU wU ?_); (try simp only [Act.put, pA, pB, pC])) | ((with_reducible refine wpQ_skip wU ?_); (try simp only [Act.put, pA, pB, pC])) |  ((with_reducible refine wpB_load (by first | exact F_int | fail) wU wU (by assumption) wU ?_); (try simp only [Act.put, pA, pB, pC])) | ((with_reducible refine wpB_loadS (n := 2) (us := #[_, _]) (by fail) kR wU wU (by assumption) wU wU ?_); (try simp only [Act.put, pA, pB, pC])) | ((with_reducible refine wpB_loadS (n := 4) (us := #[_, _, _, _]) (by fail) kR wU wU (by assumption) wU wU ?_); (try simp only [Act.put, pA, pB, pC])) | ((refine wpQ_oneG ?_ wU (fun w' => ?_) ?_); rotate_left; (go_simp; rfl); (try simp only [Act.put, pA, pB, pC])))
 refine wpQuiet_nil ?_
 intro w1 hb1
 have hS1 := hS.mono hb1
 go_wp2_with (go_at_call 55; refine (mfirst_any _ _ [_, _, _, _] _ (reps_newN cIntS [_, _, _, _] 4 rfl (by decide) _ _ (by simp) rfl)).mono ?_; rw [firstE_z, firstE_z, firstE_head (by decide)]; rintro e w' ⟨rfl, rfl⟩)
 all_goals go_ret
 all_goals exact ⟨by rw [HV.out]; rfl, bal hS1.b _⟩
theorem cm_d1 (m : MacV) (ad : Option Addr) (cap : Nat) (w : World) (hR : Ints w ad cap m.sw) (hI : -9223372036854775808 ≤ m.gears ∧ m.gears ≤ 9223372036854775807) (hr : m.ring = true) (q : Int) (hq : m.gears.tmod 2 = q) (r1 : 1 ≤ m.gears) (r2 : m.gears ≤ 16) (n1 : decide (m.gears < 1) = false) (n2 : decide (16 < m.gears) = false) (hqb : (q == 1) = false) (ht : (m.turn != 1) = true) (htn : (m.turn != -1) = true) (HV : Hid (macE m = 3)) :
  Calls Tryz.prog 111 #[mV m ad cap] w fun r w' => r = .returned (.int .i64 (macE m)) ∧ Below w.heap.size w w' := by
 have hcap := hR.le
 have hmx := hR.max
 unfold mV
 rw [hr]
 clear hr
 go_enter Tryz.func111, Tryz.ntmps111
 go_wp2_with fail
 have hS := (SL.nil w).box (.cells #[.bool true, .int .i64 m.gears, .int .i64 m.turn, .slice ad m.sw.length cap] 24)
 have q1 := (hS.blk 0 rfl).1
 refine wp_region_qt 34 kR kR ?_
 simp only [List.take_succ_cons, List.take_zero, List.drop_succ_cons, List.drop_zero]
 repeat (first | ((with_reducible refine wpB_load F_boolM wU wU q1 wU ?_); (try simp only [Act.put, pA, pB, pC])) | ((with_reducible refine wpB_load F_sliceM wU wU q1 wU ?_); (try simp only [Act.put, pA, pB, pC])) | ((with_reducible refine wpB_when wU wU wU ?_); (try simp only [Act.put, pA, pB, pC])) | ((with_reducible refine wpQ_skip wU ?_); (try simp only [Act.put, pA, pB, pC])) |  ((with_reducible refine wpB_load (by first | exact F_int | fail) wU wU (by assumption) wU ?_); (try simp only [Act.put, pA, pB, pC])) | ((with_reducible refine wpB_loadS (n := 2) (us := #[_, _]) (by fail) kR wU wU (by assumption) wU wU ?_); (try simp only [Act.put, pA, pB, pC])) | ((with_reducible refine wpB_loadS (n := 4) (us := #[_, _, _, _]) (by fail) kR wU wU (by assumption) wU wU ?_); (try simp only [Act.put, pA, pB, pC])) | ((refine wpQ_oneG ?_ wU (fun w' => ?_) ?_); rotate_left; (go_simp; rfl); (try simp only [Act.put, pA, pB, pC])))
 refine wpQuiet_nil ?_
 intro w1 hb1
 have hS1 := hS.mono hb1
 go_wp2_with (go_at_call 55; refine (mfirst_any _ _ [_, _, _, _] _ (reps_newN cIntS [_, _, _, _] 4 rfl (by decide) _ _ (by simp) rfl)).mono ?_; rw [firstE_z, firstE_z, firstE_head (by decide)]; rintro e w' ⟨rfl, rfl⟩)
 all_goals go_ret
 all_goals exact ⟨by rw [HV.out]; rfl, bal hS1.b _⟩
theorem cm_e00 (m : MacV) (ad : Option Addr) (cap : Nat) (w : World) (hR : Ints w ad cap m.sw) (hI : -9223372036854775808 ≤ m.gears ∧ m.gears ≤ 9223372036854775807) (hr : m.ring = false) (q : Int) (hq : m.gears.tmod 2 = q) (r1 : 1 ≤ m.gears) (r2 : m.gears ≤ 16) (n1 : decide (m.gears < 1) = false) (n2 : decide (16 < m.gears) = false)  (ht : (m.turn != 1) = false)  (hd5 : decide (m.gears < m.sw.length) = true) (HV : Hid (macE m = 5)) :
  Calls Tryz.prog 111 #[mV m ad cap] w fun r w' => r = .returned (.int .i64 (macE m)) ∧ Below w.heap.size w w' := by
 have hcap := hR.le
 have hmx := hR.max
 unfold mV
 rw [hr]
 clear hr
 go_enter Tryz.func111, Tryz.ntmps111
 go_wp2_with fail
 have hS := (SL.nil w).box (.cells #[.bool false, .int .i64 m.gears, .int .i64 m.turn, .slice ad m.sw.length cap] 24)
 have q1 := (hS.blk 0 rfl).1
 refine wp_region_qt 34 kR kR ?_
 simp only [List.take_succ_cons, List.take_zero, List.drop_succ_cons, List.drop_zero]
 repeat (first | ((with_reducible refine wpB_load F_boolM wU wU q1 wU ?_); (try simp only [Act.put, pA, pB, pC])) | ((with_reducible refine wpB_load F_sliceM wU wU q1 wU ?_); (try simp only [Act.put, pA, pB, pC])) | ((with_reducible refine wpB_when wU wU wU ?_); (try simp only [Act.put, pA, pB, pC])) | ((with_reducible refine wpQ_skip wU ?_); (try simp only [Act.put, pA, pB, pC])) |  ((with_reducible refine wpB_load (by first | exact F_int | fail) wU wU (by assumption) wU ?_); (try simp only [Act.put, pA, pB, pC])) | ((with_reducible refine wpB_loadS (n := 2) (us := #[_, _]) (by fail) kR wU wU (by assumption) wU wU ?_); (try simp only [Act.put, pA, pB, pC])) | ((with_reducible refine wpB_loadS (n := 4) (us := #[_, _, _, _]) (by fail) kR wU wU (by assumption) wU wU ?_); (try simp only [Act.put, pA, pB, pC])) | ((refine wpQ_oneG ?_ wU (fun w' => ?_) ?_); rotate_left; (go_simp; rfl); (try simp only [Act.put, pA, pB, pC])))
 refine wpQuiet_nil ?_
 intro w1 hb1
 have hS1 := hS.mono hb1
 go_wp2_with (go_at_call 55; refine (mfirst_any _ _ [_, _, _, _] _ (reps_newN cIntS [_, _, _, _] 4 rfl (by decide) _ _ (by simp) rfl)).mono ?_; rw [firstE_z, firstE_z, firstE_z, firstE_head (by decide)]; rintro e w' ⟨rfl, rfl⟩)
 all_goals go_ret
 all_goals exact ⟨by rw [HV.out]; rfl, bal hS1.b _⟩
theorem cm_e01 (m : MacV) (ad : Option Addr) (cap : Nat) (w : World) (hR : Ints w ad cap m.sw) (hI : -9223372036854775808 ≤ m.gears ∧ m.gears ≤ 9223372036854775807) (hr : m.ring = false) (q : Int) (hq : m.gears.tmod 2 = q) (r1 : 1 ≤ m.gears) (r2 : m.gears ≤ 16) (n1 : decide (m.gears < 1) = false) (n2 : decide (16 < m.gears) = false)  (ht : (m.turn != 1) = true) (htn : (m.turn != -1) = false) (hd5 : decide (m.gears < m.sw.length) = true) (HV : Hid (macE m = 5)) :
  Calls Tryz.prog 111 #[mV m ad cap] w fun r w' => r = .returned (.int .i64 (macE m)) ∧ Below w.heap.size w w' := by
 have hcap := hR.le
 have hmx := hR.max
 unfold mV
 rw [hr]
 clear hr
 go_enter Tryz.func111, Tryz.ntmps111
 go_wp2_with fail
 have hS := (SL.nil w).box (.cells #[.bool false, .int .i64 m.gears, .int .i64 m.turn, .slice ad m.sw.length cap] 24)
 have q1 := (hS.blk 0 rfl).1
 refine wp_region_qt 34 kR kR ?_
 simp only [List.take_succ_cons, List.take_zero, List.drop_succ_cons, List.drop_zero]
 repeat (first | ((with_reducible refine wpB_load F_boolM wU wU q1 wU ?_); (try simp only [Act.put, pA, pB, pC])) | ((with_reducible refine wpB_load F_sliceM wU wU q1 wU ?_); (try simp only [Act.put, pA, pB, pC])) | ((with_reducible refine wpB_when wU wU wU ?_); (try simp only [Act.put, pA, pB, pC])) | ((with_reducible refine wpQ_skip wU ?_); (try simp only [Act.put, pA, pB, pC])) |  ((with_reducible refine wpB_load (by first | exact F_int | fail) wU wU (by assumption) wU ?_); (try simp only [Act.put, pA, pB, pC])) | ((with_reducible refine wpB_loadS (n := 2) (us := #[_, _]) (by fail) kR wU wU (by assumption) wU wU ?_); (try simp only [Act.put, pA, pB, pC])) | ((with_reducible refine wpB_loadS (n := 4) (us := #[_, _, _, _]) (by fail) kR wU wU (by assumption) wU wU ?_); (try simp only [Act.put, pA, pB, pC])) | ((refine wpQ_oneG ?_ wU (fun w' => ?_) ?_); rotate_left; (go_simp; rfl); (try simp only [Act.put, pA, pB, pC])))
 refine wpQuiet_nil ?_
 intro w1 hb1
 have hS1 := hS.mono hb1
 go_wp2_with (go_at_call 55; refine (mfirst_any _ _ [_, _, _, _] _ (reps_newN cIntS [_, _, _, _] 4 rfl (by decide) _ _ (by simp) rfl)).mono ?_; rw [firstE_z, firstE_z, firstE_z, firstE_head (by decide)]; rintro e w' ⟨rfl, rfl⟩)
 all_goals go_ret
 all_goals exact ⟨by rw [HV.out]; rfl, bal hS1.b _⟩
theorem cm_e10 (m : MacV) (ad : Option Addr) (cap : Nat) (w : World) (hR : Ints w ad cap m.sw) (hI : -9223372036854775808 ≤ m.gears ∧ m.gears ≤ 9223372036854775807) (hr : m.ring = true) (q : Int) (hq : m.gears.tmod 2 = q) (r1 : 1 ≤ m.gears) (r2 : m.gears ≤ 16) (n1 : decide (m.gears < 1) = false) (n2 : decide (16 < m.gears) = false) (hqb : (q == 1) = false) (ht : (m.turn != 1) = false)  (hd5 : decide (m.gears < m.sw.length) = true) (HV : Hid (macE m = 5)) :
  Calls Tryz.prog 111 #[mV m ad cap] w fun r w' => r = .returned (.int .i64 (macE m)) ∧ Below w.heap.size w w' := by
 have hcap := hR.le
 have hmx := hR.max
 unfold mV
 rw [hr]
 clear hr
 go_enter Tryz.func111, Tryz.ntmps111
 go_wp2_with fail
 have hS := (SL.nil w).box (.cells #[.bool true, .int .i64 m.gears, .int .i64 m.turn, .slice ad m.sw.length cap] 24)
 have q1 := (hS.blk 0 rfl).1
 refine wp_region_qt 34 kR kR ?_
 simp only [List.take_succ_cons, List.take_zero, List.drop_succ_cons, List.drop_zero]
 repeat (first | ((with_reducible refine wpB_load F_boolM wU wU q1 wU ?_); (try simp only [Act.put, pA, pB, pC])) | ((with_reducible refine wpB_load F_sliceM wU wU q1 wU ?_); (try simp only [Act.put, pA, pB, pC])) | ((with_reducible refine wpB_when wU wU wU ?_); (try simp only [Act.put, pA, pB, pC])) | ((with_reducible refine wpQ_skip wU ?_); (try simp only [Act.put, pA, pB, pC])) |  ((with_reducible refine wpB_load (by first | exact F_int | fail) wU wU (by assumption) wU ?_); (try simp only [Act.put, pA, pB, pC])) | ((with_reducible refine wpB_loadS (n := 2) (us := #[_, _]) (by fail) kR wU wU (by assumption) wU wU ?_); (try simp only [Act.put, pA, pB, pC])) | ((with_reducible refine wpB_loadS (n := 4) (us := #[_, _, _, _]) (by fail) kR wU wU (by assumption) wU wU ?_); (try simp only [Act.put, pA, pB, pC])) | ((refine wpQ_oneG ?_ wU (fun w' => ?_) ?_); rotate_left; (go_simp; rfl); (try simp only [Act.put, pA, pB, pC])))
 refine wpQuiet_nil ?_
 intro w1 hb1
 have hS1 := hS.mono hb1
 go_wp2_with (go_at_call 55; refine (mfirst_any _ _ [_, _, _, _] _ (reps_newN cIntS [_, _, _, _] 4 rfl (by decide) _ _ (by simp) rfl)).mono ?_; rw [firstE_z, firstE_z, firstE_z, firstE_head (by decide)]; rintro e w' ⟨rfl, rfl⟩)
 all_goals go_ret
 all_goals exact ⟨by rw [HV.out]; rfl, bal hS1.b _⟩
theorem cm_e11 (m : MacV) (ad : Option Addr) (cap : Nat) (w : World) (hR : Ints w ad cap m.sw) (hI : -9223372036854775808 ≤ m.gears ∧ m.gears ≤ 9223372036854775807) (hr : m.ring = true) (q : Int) (hq : m.gears.tmod 2 = q) (r1 : 1 ≤ m.gears) (r2 : m.gears ≤ 16) (n1 : decide (m.gears < 1) = false) (n2 : decide (16 < m.gears) = false) (hqb : (q == 1) = false) (ht : (m.turn != 1) = true) (htn : (m.turn != -1) = false) (hd5 : decide (m.gears < m.sw.length) = true) (HV : Hid (macE m = 5)) :
  Calls Tryz.prog 111 #[mV m ad cap] w fun r w' => r = .returned (.int .i64 (macE m)) ∧ Below w.heap.size w w' := by
 have hcap := hR.le
 have hmx := hR.max
 unfold mV
 rw [hr]
 clear hr
 go_enter Tryz.func111, Tryz.ntmps111
 go_wp2_with fail
 have hS := (SL.nil w).box (.cells #[.bool true, .int .i64 m.gears, .int .i64 m.turn, .slice ad m.sw.length cap] 24)
 have q1 := (hS.blk 0 rfl).1
 refine wp_region_qt 34 kR kR ?_
 simp only [List.take_succ_cons, List.take_zero, List.drop_succ_cons, List.drop_zero]
 repeat (first | ((with_reducible refine wpB_load F_boolM wU wU q1 wU ?_); (try simp only [Act.put, pA, pB, pC])) | ((with_reducible refine wpB_load F_sliceM wU wU q1 wU ?_); (try simp only [Act.put, pA, pB, pC])) | ((with_reducible refine wpB_when wU wU wU ?_); (try simp only [Act.put, pA, pB, pC])) | ((with_reducible refine wpQ_skip wU ?_); (try simp only [Act.put, pA, pB, pC])) |  ((with_reducible refine wpB_load (by first | exact F_int | fail) wU wU (by assumption) wU ?_); (try simp only [Act.put, pA, pB, pC])) | ((with_reducible refine wpB_loadS (n := 2) (us := #[_, _]) (by fail) kR wU wU (by assumption) wU wU ?_); (try simp only [Act.put, pA, pB, pC])) | ((with_reducible refine wpB_loadS (n := 4) (us := #[_, _, _, _]) (by fail) kR wU wU (by assumption) wU wU ?_); (try simp only [Act.put, pA, pB, pC])) | ((refine wpQ_oneG ?_ wU (fun w' => ?_) ?_); rotate_left; (go_simp; rfl); (try simp only [Act.put, pA, pB, pC])))
 refine wpQuiet_nil ?_
 intro w1 hb1
 have hS1 := hS.mono hb1
 go_wp2_with (go_at_call 55; refine (mfirst_any _ _ [_, _, _, _] _ (reps_newN cIntS [_, _, _, _] 4 rfl (by decide) _ _ (by simp) rfl)).mono ?_; rw [firstE_z, firstE_z, firstE_z, firstE_head (by decide)]; rintro e w' ⟨rfl, rfl⟩)
 all_goals go_ret
 all_goals exact ⟨by rw [HV.out]; rfl, bal hS1.b _⟩
end Go.Proofs.YtglpfpdomnllkaaGreat
