/- Contracts and plain facts that the claim uses (TwB BsK BsL TwC Ht). Conditions: as each one states. -/
import Derived.Test.YtdeoogbiipodmaaGreatProg
import Derived.WalkKit
import Derived.WalkSpells
import Derived.Maps.AppendAt
import Derived.Deep.Quiet
import Derived.Maps.Own
import Derived.Maps.OwnSet
import Derived.Maps.Views
import Derived.WalkLawsBesides
import Derived.Laws.EntriesVeiled
import Derived.Deep.QuietTactic
import Derived.BigQuiet
import Derived.Deep.RegionHeld3
import Derived.Deep.AppendLies
import Derived.Deep.RegionHeldLaw
import Derived.Deep.RegionLaw
import Derived.RangeFuncNested
import Derived.RangeFuncBound
import Derived.RangeFuncCalls
import Derived.RangeFuncLeaves
import Derived.RangeFuncFrom
import Derived.Shelf.Abstract
import Derived.Shelf.RegionOpen
import Derived.OwnWalkIn
import Derived.TacticsInMore
import Derived.LoopNIn
import Derived.LoopIn
import Derived.Shelf.Strings.Trim
import Derived.Shelf.Strings.SlTrimAscii
import Derived.Shelf.Strings.Repeat
import Derived.Shelf.Strings.OnBuilder
import Derived.Shelf.Strconv.Itoa1
import Derived.Shelf.Strconv.Itoa3
import Derived.Shelf.LaysM
import Derived.Ground.Names2Prog
import Derived.Lib.OthersKept
import Derived.StillTail
import Derived.Laws.Tables
import Derived.IntWalk
import Derived.Laws.CopyOwn
import Derived.BigRegion
import Derived.ChangeAlike
import Derived.Shelf.Bits.Mul64
import Derived.Lib.ItoaLen
import Derived.Lib.ItoaMem
import Derived.Sort.LoopGhostIn
import Derived.Maps.RangeWalk
import Derived.Maps.Ext
import Derived.Sort.QuietThIn
import Derived.Deep.LoopGhost
import Derived.Lib.Split
import Derived.Lib.AtoiAll
import Derived.Lib.AppendIntMem
import Derived.Lib.SmallJoins
import Derived.LaidSub
import Derived.Lib.LaidTab
import Derived.Lib.AtoiErrMem
import Derived.Stop.LaidErr
import Derived.ReadAgain
import Derived.ChangeSlices
import Derived.OpenShut
import Derived.ProofKit
import Derived.Deep.DeepHandedRow
import Derived.Deep.SlicePairs
import Derived.Laws.IdiomStrings
import Derived.Lib.AppendZeros
import Derived.Lib.SliceRun
import Derived.Shelf.Spec.SlicesInsertGrow
import Derived.Test.YtdeoogbiipodmaaGreatXz01
import Derived.Test.YtdeoogbiipodmaaGreatXz02
import Derived.Test.YtdeoogbiipodmaaGreatXz03
import Derived.Test.YtdeoogbiipodmaaGreatXz04
import Derived.Test.YtdeoogbiipodmaaGreatXz05
import Derived.Test.YtdeoogbiipodmaaGreatXz06
import Derived.Test.YtdeoogbiipodmaaGreatXz07
import Derived.Test.YtdeoogbiipodmaaGreatXz08
import Derived.Test.YtdeoogbiipodmaaGreatXz09
import Derived.Test.YtdeoogbiipodmaaGreatXz10
import Derived.Test.YtdeoogbiipodmaaGreatY7801
import Derived.Test.YtdeoogbiipodmaaGreatY7802
import Derived.Test.YtdeoogbiipodmaaGreatY7803
import Derived.Test.YtdeoogbiipodmaaGreatY7804
import Derived.Test.YtdeoogbiipodmaaGreatY7805
import Derived.Test.YtdeoogbiipodmaaGreatY7806
set_option linter.all false

namespace Go.Proofs.YtdeoogbiipodmaaGreat
open Go.RowKit
set_option maxHeartbeats 8000000
set_option maxRecDepth 100000
def wdI (row : List Int) : Option Nat := (List.range (row.length - 1)).find? (bgP row)
def wdGo : Nat → List Int → List Int → Option (List Int)
 | 0, _, _ => none
 | f + 1, row, out => match wdI row with
   | none => some out
   | some i => wdGo f (swpL row i) (out ++ [(i : Int) + 1])
def slLen : Value → Nat
 | .slice _ n _ => n
 | _ => 0
theorem wdI_none {row : List Int} {i : Nat} (h : ∀ j, j < i → bgP row j = false) (hi : row.length ≤ i + 1) : wdI row = none := by
 unfold wdI
 rw [List.find?_eq_none]
 intro j hj
 rw [h j (by have := List.mem_range.1 hj; omega)]
 simp
theorem wdI_some {row : List Int} {i : Nat} (h : ∀ j, j < i → bgP row j = false) (hi : i + 1 < row.length) (hb : bgP row i = true) : wdI row = some i := by
 unfold wdI
 rw [List.find?_range_eq_some]
 exact ⟨hb, List.mem_range.2 (by omega), fun j hj => by rw [h j hj]; rfl⟩
theorem swpL_len2 (r : List Int) (i : Nat) : (swpL r i).length = r.length := by simp [swpL]
theorem word_simple (F : Nat) (a : Option Addr) (cap : Nat) (p out : List Int) (w : World) (hS : Ints w a cap p) (hl1 : 1 ≤ p.length) (hl : p.length ≤ 12) (hF : F ≤ 100) (h : wdGo F p [] = some out) :
  Calls Tryz.prog 30 #[.slice a p.length cap] w fun r w' => ∃ v, r = .returned v ∧ OwnI w.heap.size w' v out ∧ Below w.heap.size w w' := by
 have HC := hid (CloneS_any a cap p w hS (by omega) (by omega))
 have HG := hid h
 have HN0 := hid (show p.length = p.length from rfl)
 obtain ⟨n, hn⟩ : ∃ n, n = p.length := ⟨_, rfl⟩
 have HN := hid hn.symm
 rw [← hn] at HC hl1 hl ⊢
 clear hS h hn
 go_enter Tryz.func30, Tryz.ntmps30
 go_wp2_with fail
 refine HC.out.mono ?_
 rintro e w1 ⟨v1, rfl, ho1, b1⟩
 have hZ := (SL.ofOwn ho1 b1).nilS (α := Int) (e := 3) cIntS
 go_wp2_with fail
 go_loopw [3, 4, 5] (fun rv ov _ wr => ∃ (f : Nat) (row outp : List Int), wdGo f row outp = some out ∧ f + outp.length = F ∧ row.length = n ∧ SL w.heap.size w wr [pOwn cInt 1 3 ov outp, pOwn cInt 1 3 rv row]) (fun _ ov _ _ => F - slLen ov)
 case atStart => exact ⟨F, p, [], HG.out, by simp, HN.out, hZ⟩
 case round =>
  clear hZ
  obtain ⟨f, row, outp, hgo, hf, hrl, hSr⟩ := hrel
  obtain ⟨ao, co, rfl, _⟩ := hSr.slice 0 rfl
  obtain ⟨ar, cr, rfl, _⟩ := hSr.slice 1 rfl
  have hRr := hSr.rd 1 rfl
  have HGO := hid hgo; have HRL := hid hrl; have HF := hid hf
  have hol : outp.length ≤ 100 := by omega
  rw [hrl]
  clear hgo hrl hf
  go_wp2_with fail
  go_loopw [5] (fun iv wq => ∃ i : Nat, i < n ∧ iv = .int .i64 i ∧ Hid (∀ j, j < i → bgP row j = false) ∧ Below wr.heap.size wr wq) (fun iv _ => n - (intOf iv).toNat)
  case atStart => exact ⟨0, by omega, rfl, hid fun j hj => by omega, Below.refl _ _⟩
  case round =>
   obtain ⟨i, hi, rfl, hno, hbq⟩ := hrel
   have hSq := hSr.mono hbq
   have hRq := hRr.below hbq
   have hwi : IntKind.i64.wrap ((i : Int) + 1) = ((i + 1 : Nat) : Int) := by rw [IntWalk.i64_in _ (by omega)]; omega
   by_cases hin : i + 1 < n
   ·have dlt : decide (((i + 1 : Nat) : Int) < (n : Int)) = true := decide_eq_true (by omega)
    have dge : decide ((n : Int) ≤ ((i + 1 : Nat) : Int)) = false := decide_eq_false (by omega)
    have HB := hid (begins_any ar cr row i _ hRq (by rw [HRL.out]; exact hin) (by rw [HRL.out]; omega))
    rw [HRL.out] at HB
    have HFR := hid (fun W hW => fronted_any ar cr row i W hW (by rw [HRL.out]; exact hin) (by rw [HRL.out]; omega))
    rw [HRL.out] at HFR
    cases hb : bgP row i with
    | false =>
     rw [hb] at HB
     have hno2 : Hid (∀ j, j < i + 1 → bgP row j = false) := hid fun j hj => by
      rcases (by omega : j < i ∨ j = i) with h3 | rfl
      ·exact hno.out j h3
      ·exact hb
     clear hb HFR hno
     go_wp2_with fail
     refine HB.out.mono ?_
     rintro e w3 ⟨rfl, b3⟩
     go_wp2_with fail
     exact ⟨⟨i + 1, by omega, by go_num, hno2, bnext hbq b3⟩, by simp [intOf]; omega⟩
    | true =>
     rw [hb] at HB
     have hwd := wdI_some hno.out (by rw [HRL.out]; exact hin) hb
     have hgo := HGO.out
     obtain ⟨g, rfl⟩ : ∃ g, f = g + 1 := ⟨f - 1, by
      rcases f with _ | f
      ·cases hgo
      ·rfl⟩
     rw [wdGo, hwd] at hgo
     have HGN := hid hgo
     clear hb hwd hgo hno
     go_wp2_with fail
     refine HB.out.mono ?_
     rintro e w3 ⟨rfl, b3⟩
     have hS3 := hSq.mono b3
     have hR3 := hRq.below b3
     go_wp2_with fail
     refine (HFR.out _ hR3).mono ?_
     rintro e w4 ⟨v4, rfl, ho4, b4⟩
     have hS4 := (hS3.call (SL.ofOwn ho4 b4)).pick [1, 0] (by decide) [pOwn cInt 1 3 (.slice ao outp.length co) outp, pOwn cInt 1 3 v4 (swpL row i)] rfl
     obtain ⟨a4, c4, rfl, _⟩ := hS4.slice 1 rfl
     go_wp2_with (first | ((with_reducible refine wpList_pushL (y := ((i : Int) + 1)) 0 E_ints wU wU (hS4) wU cIntO ⟨rfl, rfl⟩ (by first | with_unfolding_all rfl | simp) wU (by first | omega | (simp; omega)) (by first | omega | (simp; omega)) ?_); intro v5 w5 hS5))
     have hS6 := hS5
     simp only [List.set_cons_zero] at hS6
     obtain ⟨a5, c5, rfl, _⟩ := hS6.slice 0 rfl
     exact ⟨⟨g, swpL row i, outp ++ [(i : Int) + 1], HGN.out, by have := HF.out; simp; omega, by rw [swpL_len2]; exact HRL.out, hS6⟩, by have := HF.out; simp [slLen]; omega⟩
   ·have dlt : decide (((i + 1 : Nat) : Int) < (n : Int)) = false := decide_eq_false (by omega)
    have dge : decide ((n : Int) ≤ ((i + 1 : Nat) : Int)) = true := decide_eq_true (by omega)
    have hwd := wdI_none hno.out (by rw [HRL.out]; omega)
    have hgo := HGO.out
    obtain ⟨g, rfl⟩ : ∃ g, f = g + 1 := ⟨f - 1, by
     rcases f with _ | f
     ·cases hgo
     ·rfl⟩
    rw [wdGo, hwd] at hgo
    have e9 : outp = out := Option.some.inj hgo
    subst e9
    have hlt_ : ¬ ((i : Int) + 1 < (n : Int)) := by omega
    clear hwd hgo hno hin
    go_wp2_with fail
    go_ret
    exact ⟨_, rfl, hSq.own 0 rfl, hSq.b⟩
end Go.Proofs.YtdeoogbiipodmaaGreat

namespace Go.Proofs.YtdeoogbiipodmaaGreat
open Go.RowKit
set_option maxHeartbeats 8000000
set_option maxRecDepth 100000
theorem cut_nil : ∀ V, (Instr.sliceAt 22 (.slice none 0 0) none (some (.int .i64 0)) none).run Tryz.prog V = .ok (.slice none 0 0) V := fun V => by
 obtain ⟨inf, hinf, _, hs, _⟩ := info_parts E_ints.inf
 have hb := run_bounds (P := Tryz.prog) (w := V) (n := 0) (cap := 0) (lo := none) (hi := some (.int .i64 0)) (i := 0) (j := 0) (.inr ⟨rfl, rfl⟩) (.inl rfl) (by omega) (by omega)
 simp [Instr.sliceAt, run_underlying E_ints.und, Instr.slice, hb, sizeOf, typeInfo, hinf, hs]
theorem cut_zero (a : Option Addr) (n cp : Nat) (h : n ≤ cp) (h0 : 0 < cp) : ∃ a', (∀ G, a = some ⟨G, 0, none⟩ → a' = a) ∧ ∀ V, (Instr.sliceAt 22 (.slice a n cp) none (some (.int .i64 0)) none).run Tryz.prog V = .ok (.slice a' 0 cp) V := by
 refine ⟨a.map fun x => x.add 0, fun G hG => by subst hG; rfl, fun V => ?_⟩
 obtain ⟨inf, hinf, _, hs, _⟩ := info_parts E_ints.inf
 have hb := run_bounds (P := Tryz.prog) (w := V) (n := n) (cap := cp) (lo := none) (hi := some (.int .i64 0)) (i := 0) (j := 0) (.inr ⟨rfl, rfl⟩) (.inl rfl) (by omega) (by omega)
 simp [Instr.sliceAt, run_underlying E_ints.und, Instr.slice, hb, sizeOf, typeInfo, hinf, hs]
 intro h
 omega
theorem grow_any (n : Nat) (w : World) (hn : n ≤ 1000) :
  Calls Tryz.prog 79 #[.slice none 0 0, .int .i64 n] w fun r w' => ∃ v, r = .returned v ∧ OwnI w.heap.size w' v [] ∧ Below w.heap.size w w' := by
 by_cases h0 : n = 0
 ·subst h0
  go_enter Tryz.func79, Tryz.ntmps79
  go_wp2_with fail
  go_ret
  exact ⟨_, rfl, own_nil cIntS, Below.refl _ _⟩
 ·obtain ⟨inf, hi, hz0, hz1, hz2⟩ := info_parts E_ints.inf
  have happ := Lib.run_append_nil_zeros (P := Tryz.prog) w 22 3 22 3 inf (.int .i64 0) .i64 .i64 E_ints.und Tryz.underlying3 hi hz0 n (by omega) (by omega) (by omega) (by rw [hz2]; omega)
  generalize hcap : grownCap w n 0 3 = cap2 at happ
  have hcapge : n ≤ cap2 := by rw [← hcap]; exact grownCap_ge w _ 0 3
  have hcaple : cap2 ≤ maxLen := by rw [← hcap]; exact grownCap_le_maxLen w _ 0 3 (by unfold maxLen; omega)
  generalize hZ : (Builtin.zeroCells (Value.int .i64 0).cells n ++ Builtin.zeroCells (Value.int .i64 0).cells (cap2 - n)) = Z at happ
  have hZs : Z.size = cap2 := by rw [← hZ]; simp [size_zeroCells, Value.cells]; omega
  have hw1 : IntKind.i64.wrap (n : Int) = n := IntWalk.i64_in _ (by omega)
  have hw2 : IntKind.i64.wrap ((n : Int) - 0) = n := by rw [Int.sub_zero]; exact hw1
  have hcn := cut_nil
  obtain ⟨a', ha, hcz⟩ := cut_zero (some ⟨w.heap.size, 0, none⟩) n cap2 hcapge (by omega)
  have ha' := ha _ rfl
  subst ha'
  have hn0 : ¬ ((n : Int) ≤ 0) := by omega
  have hres : OwnI w.heap.size (w.drew.alloc (.cells Z 3)) (.slice (some ⟨w.heap.size, 0, none⟩) 0 cap2) [] := by
   refine ⟨cIntS, rfl, .inr ⟨w.heap.size, cap2, Z, rfl, Nat.le_refl _, ?_, by simp, hcaple, by rw [hZs]; omega, by simp⟩⟩
   exact heap_alloc_new w.drew _
  have hbl : Below w.heap.size w (w.drew.alloc (.cells Z 3)) := bal (Below.refl _ _).drew _
  clear hcap hZ ha
  go_enter Tryz.func79, Tryz.ntmps79
  go_wp2_with (at_builtin; refine Lib.wpList_append_run _ rfl _ _ _ _ rfl _ _ rfl rfl _ _ happ ?_)
  go_ret
  exact ⟨_, rfl, hres, hbl⟩
theorem concat_any (m : Nat) (a : Option Addr) (c : Nat) (H : List SlH) (X : List (List Int)) (w : World) (hR : Reps cSl 1 w a c H) (hH : H.length = m) (hX : X.length = m) (hm : m ≤ 1000)
  (hrow : ∀ k : Nat, k < m → ∃ b d, atD ((none, 0, 0) : SlH) H (k : Int) = (b, (nth X k).length, d) ∧ Ints w b d (nth X k)) (hs : X.flatten.length ≤ 1000) :
  Calls Tryz.prog 36 #[.slice a m c] w fun r w' => ∃ v, r = .returned v ∧ OwnI w.heap.size w' v X.flatten ∧ Below w.heap.size w w' := by
 have hcap := hR.le
 have hmx := hR.max
 rw [hH] at hcap
 obtain ⟨F, hF⟩ : ∃ F : Nat → List Int, ∀ k, F k = (X.take k).flatten := ⟨_, fun _ => rfl⟩
 have hF0 : F 0 = [] := by rw [hF]; rfl
 have hFm : F m = X.flatten := by rw [hF, ← hX, List.take_length]
 have hFs : ∀ k, k < m → F (k + 1) = F k ++ nth X k := fun k hk => by rw [hF, hF, nth_take (by omega), List.flatten_append]; simp
 have hFl : ∀ k, k ≤ m → (F k).length ≤ 1000 := fun k hk => by
  have : X.flatten = F k ++ (X.drop k).flatten := by rw [hF, ← List.flatten_append, List.take_append_drop]
  have h2 : X.flatten.length = (F k).length + (X.drop k).flatten.length := by rw [this, List.length_append]
  omega
 rw [← hFm]
 have HFS := hid hFs; have HFL := hid hFl; have HRW := hid hrow; have HH := hid hH; have HF0 := hid hF0
 clear hF hF0 hFm hFs hFl hrow hs hX hH
 go_enter Tryz.func36, Tryz.ntmps36
 go_wp2_with fail
 go_loopw [11, 5, 3] (fun iv _ sv wr => ∃ k : Nat, iv = .int .i64 k ∧ sv = .int .i64 ((F k).length : Nat) ∧ k ≤ m ∧ Below w.heap.size w wr) (fun iv _ _ _ => m - (intOf iv).toNat)
 case atStart => exact ⟨0, rfl, by rw [HF0.out]; rfl, by omega, Below.refl _ _⟩
 case round =>
  obtain ⟨k, rfl, rfl, hk, hbr⟩ := hrel
  by_cases hlt : k < m
  ·obtain ⟨b, d, e1, h1⟩ := HRW.out k hlt
   have hRr := hR.below hbr
   have hkH : (k : Int) < (H.length : Int) := by have := HH.out; omega
   have h2 := HFL.out (k + 1) (by omega)
   have h3 := HFS.out k hlt
   rw [h3, List.length_append] at h2
   have hFk : (F (k + 1)).length = (F k).length + (nth X k).length := by rw [h3, List.length_append]
   obtain ⟨N, hN⟩ : ∃ N, N = (nth X k).length := ⟨_, rfl⟩
   obtain ⟨K, hK⟩ : ∃ K, K = (F k).length := ⟨_, rfl⟩
   rw [← hN] at h2 hFk e1
   rw [← hK] at h2 hFk ⊢
   have hw1 : IntKind.i64.wrap ((K : Int) + (N : Int)) = ((K + N : Nat) : Int) := by rw [IntWalk.i64_in _ (by omega)]; omega
   have dn : decide (((K + N : Nat) : Int) < 0) = false := decide_eq_false (by omega)
   have HE1 := hid e1; have HFK := hid hFk
   clear e1 h1 h3 hN hK hFk
   go_wp2_with ((with_reducible refine wpList_idxN _ ((none, 0, 0) : SlH) E_sls F_sl cSl1 wU wU (hRr) (HH.out) oD oD (fun _ => wU) (fun _ => ?_)); rw [HE1.out])
   exact ⟨⟨k + 1, by go_num, by rw [HFK.out]; go_num, by omega, hbr⟩, by simp [intOf]; omega⟩
  ·have hkk : k = m := by omega
   subst hkk
   have hFk := HFL.out k (Nat.le_refl _)
   have hkn : ¬ ((k : Int) < (k : Int)) := by omega
   obtain ⟨K, hK⟩ : ∃ K, K = (F k).length := ⟨_, rfl⟩
   rw [← hK] at hFk ⊢
   clear hlt hk hK
   go_wp2_with fail
   refine (grow_any K _ hFk).mono ?_
   rintro e w1 ⟨v1, rfl, ho, b1⟩
   have hS0 := (SL.of_below hbr)
   have hS1 : SL w.heap.size w w1 [pOwn cInt 1 3 v1 (F 0)] := by rw [HF0.out]; exact hS0.call (SL.ofOwn ho b1)
   clear ho b1 hbr hS0
   go_wp2_with fail
   go_loopw [27, 8, 6] (fun iv _ ov wr => ∃ j : Nat, iv = .int .i64 j ∧ j ≤ k ∧ SL w.heap.size w wr [pOwn cInt 1 3 ov (F j)]) (fun iv _ _ _ => k - (intOf iv).toNat)
   case atStart => exact ⟨0, rfl, by omega, hS1⟩
   case round =>
    clear hS1 hkn
    obtain ⟨j, rfl, hj, hSr⟩ := hrel
    by_cases hlt : j < k
    ·obtain ⟨b, d, e1, h1⟩ := HRW.out j hlt
     have hRr := hR.below hSr.b
     have hkH : (j : Int) < (H.length : Int) := by have := HH.out; omega
     have h2 := HFL.out (j + 1) (by omega)
     have h3 := HFS.out j hlt
     rw [h3, List.length_append] at h2
     have HE1 := hid e1; have HFK := hid h3
     have h1r := h1.below hSr.b
     obtain ⟨N, hN⟩ : ∃ N, N = nth X j := ⟨_, rfl⟩
     rw [← hN] at h1r h2 HE1 HFK
     have hN2 : N.length ≤ 1000 := by omega
     have hF2 : (F j).length ≤ 1000 := by omega
     clear e1 h1 h3 hN
     go_wp2_with (first | ((with_reducible refine wpList_idxN _ ((none, 0, 0) : SlH) E_sls F_sl cSl1 wU wU (hRr) (HH.out) oD oD (fun _ => wU) (fun _ => ?_)); rw [HE1.out]) | ((with_reducible refine wpList_appL 0 E_ints wU wU (hSr) wU (h1r) (rfl) cIntO (by first | omega | (simp; omega)) (by first | omega | (simp; omega)) ?_); intro v3 w3 hS3))
     exact ⟨⟨j + 1, by go_num, by omega, by rw [HFK.out]; exact hS3⟩, by simp [intOf]; omega⟩
    ·have hjk : j = k := by omega
     subst hjk
     have hjn : ¬ ((j : Int) < (j : Int)) := by omega
     clear hlt hj
     go_wp2_with fail
     go_ret
     exact ⟨_, rfl, hSr.own 0 rfl, hSr.b⟩
end Go.Proofs.YtdeoogbiipodmaaGreat

namespace Go.Proofs.YtdeoogbiipodmaaGreat
open Go.RowKit
set_option maxHeartbeats 8000000
set_option maxRecDepth 100000
theorem limited_any (a : Option Addr) (n c : Nat) (w : World) (h : n ≤ 200) : Calls Tryz.prog 34 #[.slice a n c] w fun r w' => r = .returned (.tuple #[.slice a n c, .int .i64 0]) ∧ w = w' := by
 have dn : decide (200 < (n : Int)) = false := decide_eq_false (by omega)
 go_enter Tryz.func34, Tryz.ntmps34
 go_wp2_with fail
 go_ret2
 exact ⟨rfl, rfl⟩
theorem bConcat_any (n : Nat) (a a2 : Option Addr) (c c2 : Nat) (l m : List Int) (w : World) (hS : Ints w a c l) (hM : Ints w a2 c2 m) (hl : wordE (n : Int) l = 0) (hm : wordE (n : Int) m = 0) (hlm : l.length + m.length ≤ 200) :
  Calls Tryz.prog 10 #[.int .i64 n, .slice a l.length c, .slice a2 m.length c2] w fun r w' => ∃ v, r = .returned (.tuple #[v, .int .i64 0]) ∧ OwnI w.heap.size w' v (l ++ m) ∧ Below w.heap.size w w' := by
 have HC := hid (fun W (h : Ints W a c l) (h2 : Ints W a2 c2 m) => checkBoth_any n a a2 c c2 l m W h h2 hl hm)
 have HK : Hid (∀ W b, Reps cSl 1 W b 2 [(a, l.length, c), (a2, m.length, c2)] → Ints W a c l → Ints W a2 c2 m → Calls Tryz.prog 36 #[.slice b 2 2] W fun r w' => ∃ v, r = .returned v ∧ OwnI W.heap.size w' v (l ++ m) ∧ Below W.heap.size W w') := hid fun W b hR h1 h2 => by
  have := concat_any 2 b 2 [(a, l.length, c), (a2, m.length, c2)] [l, m] W hR rfl rfl (by decide) (fun k hk => by
   rcases k with _ | _ | k
   ·exact ⟨a, c, rfl, h1⟩
   ·exact ⟨a2, c2, rfl, h2⟩
   ·omega) (by simp; omega)
  simpa using this
 have hlen : (l ++ m).length ≤ 200 := by rw [List.length_append]; exact hlm
 obtain ⟨J, hJ⟩ : ∃ J, J = l ++ m := ⟨_, rfl⟩
 rw [← hJ] at HK hlen ⊢
 have hcap := hS.le
 have hcap2 := hM.le
 clear hl hm hlm hJ
 go_enter Tryz.func10, Tryz.ntmps10
 go_wp2_with fail
 refine (HC.out w hS hM).mono ?_
 rintro e w1 ⟨rfl, b1⟩
 go_wp2_with fail
 have b2 := bal (Below.refl w1.heap.size w1) (.cells #[.slice a l.length c, .slice a2 m.length c2] 22)
 have hR2 : Reps cSl 1 (w1.alloc (.cells #[.slice a l.length c, .slice a2 m.length c2] 22)) (some ⟨w1.heap.size, 0, none⟩) 2 [(a, l.length, c), (a2, m.length, c2)] := reps_newN (w := w1) cSlS [(a, l.length, c), (a2, m.length, c2)] 2 rfl (by decide) #[.slice a l.length c, .slice a2 m.length c2] (0, 0) rfl rfl
 refine (HK.out _ _ hR2 (hS.below (bnext b1 b2)) (hM.below (bnext b1 b2))).mono ?_
 rintro e w3 ⟨v3, rfl, ho, b3⟩
 have hS0 := SL.of_below (bnext b1 b2)
 have hS3 := hS0.call (SL.ofOwn ho b3)
 obtain ⟨a3, c3, hv3, -⟩ := hS3.slice (c := cInt) 0 rfl
 subst hv3
 clear ho b3 b2 b1 hS0 hR2
 go_wp2_with fail
 refine (limited_any a3 J.length c3 w3 hlen).mono ?_
 rintro e w4 ⟨rfl, rfl⟩
 go_wp2_with fail
 go_ret2
 exact ⟨_, rfl, hS3.own 0 rfl, hS3.b⟩
end Go.Proofs.YtdeoogbiipodmaaGreat

namespace Go.Proofs.YtdeoogbiipodmaaGreat
open Go.RowKit
set_option maxHeartbeats 8000000
set_option maxRecDepth 100000
theorem checkForm_two (n h : Int) (w : World) (hn : 2 ≤ n ∧ n ≤ 12) (hh : h = 2 ∨ h = -2) : Calls Tryz.prog 28 #[.int .i64 n, .agg #[.int .i64 h, .slice none 0 0]] w fun r w' => r = .returned (.int .i64 0) ∧ Below w.heap.size w w' := by
 have ha : absI h = 2 := by rcases hh with rfl | rfl <;> rfl
 have hs : strandsE n = 0 := by unfold strandsE; rw [if_neg (by omega)]
 have lif : ∀ {f : FuncId} {args : Array Value} {v : Value} {W : World}, Calls Tryz.prog f args W (fun r w' => r = .returned v ∧ W = w') → Calls Tryz.prog f args W (fun r w' => r = .returned v ∧ Below W.heap.size W w') := fun h => h.mono fun r w' hh => ⟨hh.1, by rw [← hh.2]; exact Below.refl _ _⟩
 have CS : ∀ W, Calls Tryz.prog 58 #[.int .i64 n] W fun r w' => r = .returned (.int .i64 0) ∧ Below W.heap.size W w' := fun W => by
  have h3 := lif (checkStrands_any n W)
  rwa [hs] at h3
 have CA : ∀ W, Calls Tryz.prog 33 #[.int .i64 h] W fun r w' => r = .returned (.int .i64 2) ∧ Below W.heap.size W w' := fun W => by
  have h3 := lif (babs_any h W (by omega) (by omega))
  rwa [ha] at h3
 have CW : ∀ (e : Int) W, Calls Tryz.prog 39 #[.bool false, .int .i64 e] W fun r w' => r = .returned (.int .i64 0) ∧ Below W.heap.size W w' := fun e W => lif (bwhen_any false e W)
 have HS := hid CS; have HA := hid CA; have HW := hid CW
 have q := heap_alloc_new w (.cells #[.int .i64 h, .slice none 0 0] 33)
 have hb0 := bal (Below.refl w.heap.size w) (.cells #[.int .i64 h, .slice none 0 0] 33)
 have d1 : decide (h < -200) = false := decide_eq_false (by omega)
 have d2 : (n == 1) = false := beq_eq_false_iff_ne.2 (by omega)
 clear CS CA CW lif hs ha hh
 go_enter Tryz.func28, Tryz.ntmps28
 go_wp2_with fail
 refine wp_region_qt 26 kR kR ?_
 simp only [List.take_succ_cons, List.take_zero, List.drop_succ_cons, List.drop_zero]
 repeat (first | ((with_reducible refine wpQ_skip wU ?_); (try simp only [Act.put, pA, pB, pC])) | ((refine wpB_call (.int .i64 0) wU (fun w' => ?_) (fun w' hw' => HS.out w') ?_); (focus (go_simp; done)); (try simp only [Act.put, pA, pB, pC])) | ((refine wpB_call (.int .i64 2) wU (fun w' => ?_) (fun w' hw' => HA.out w') ?_); (focus (go_simp; done)); (try simp only [Act.put, pA, pB, pC])) | ((refine wpB_call (.int .i64 0) wU (fun w' => ?_) (fun w' hw' => HW.out 3 w') ?_); (focus (go_simp; done)); (try simp only [Act.put, pA, pB, pC])) | ((refine wpB_call (.int .i64 0) wU (fun w' => ?_) (fun w' hw' => HW.out 5 w') ?_); (focus (go_simp; done)); (try simp only [Act.put, pA, pB, pC])) | ((with_reducible refine wpB_load F_sls wU wU (by assumption) wU ?_); (try simp only [Act.put, pA, pB, pC])) | (((refine wpQ_oneG ?_ wU (fun w' => ?_) ?_); rotate_left; (go_simp; rfl); (try simp only [Act.put, pA, pB, pC])); first | rw [d1] | rw [d2] | skip) |  ((with_reducible refine wpB_load (by first | exact F_int | fail) wU wU (by assumption) wU ?_); (try simp only [Act.put, pA, pB, pC])) | ((with_reducible refine wpB_loadS (n := 2) (us := #[_, _]) (by fail) kR wU wU (by assumption) wU wU ?_); (try simp only [Act.put, pA, pB, pC])) | ((with_reducible refine wpB_loadS (n := 4) (us := #[_, _, _, _]) (by fail) kR wU wU (by assumption) wU wU ?_); (try simp only [Act.put, pA, pB, pC])) | ((refine wpQ_oneG ?_ wU (fun w' => ?_) ?_); rotate_left; (go_simp; rfl); (try simp only [Act.put, pA, pB, pC])))
 refine wpQuiet_nil ?_
 intro w1 hb1
 go_wp2_with fail
 refine (bfirst_any _ _ [0, 0, 0] _ (reps_newN cIntS [0, 0, 0] 3 rfl (by decide) _ _ (by simp) rfl)).mono ?_
 rintro e w3 ⟨rfl, rfl⟩
 have q3 := ((bal hb1 (.cells #[.int .i64 0, .int .i64 0, .int .i64 0] 28)).block _ (Array.getElem?_eq_some_iff.1 q).1).trans q
 have e0 : firstE [0, 0, 0] = 0 := rfl
 rw [e0]
 go_wp2_with (with_reducible refine wpList_ldB F_sls wU wU (by assumption) wU ?_)
 go_loopw [44, 6, 7, 8, 9] (fun iv _ _ _ _ wr => iv = .int .i64 0 ∧ Below w1.heap.size w1 wr) (fun _ _ _ _ _ _ => 0)
 case atStart => exact ⟨rfl, bal (Below.refl _ _) _⟩
 case round =>
  obtain ⟨rfl, hbr⟩ := hrel
  go_wp2_with fail
  go_ret
  exact ⟨rfl, bnext (bnext hb0 hb1) hbr⟩
theorem half_word {n : Nat} (hn : n = 2 ∨ n = 3 ∨ n = 4) : wdGo 12 (revP n) [] = some (halfW n) ∧ 0 < (halfW n).length ∧ (halfW n).length ≤ 6 ∧ (∀ x ∈ halfW n, -1000 ≤ x ∧ x ≤ 1000) ∧ invW (halfW n) = (halfW n).reverse.map (fun x => -x) := by
 rcases hn with rfl | rfl | rfl <;> decide +kernel
theorem cycTwo9 (l : List Int) : cyc l (l.length * 2) = l ++ l := by
 rw [Nat.mul_two, cyc_add l _ _ (Nat.mod_self _), cyc_once]
theorem spell_two (n : Nat) (t : Int) (w : World) (hn : n = 2 ∨ n = 3 ∨ n = 4) (ht : t = 1 ∨ t = -1) : Calls Tryz.prog 9 #[.int .i64 n, .agg #[.int .i64 (-2 * t), .slice none 0 0]] w fun r w' => ∃ a c, r = .returned (.tuple #[.slice a (spW t n).length c, .int .i64 0]) ∧ Ints w' a c (spW t n) ∧ Below w.heap.size w w' := by
 obtain ⟨g1, g2, g3, g4, g5⟩ := half_word hn
 have HF := hid (fun W => checkForm_two n (-2 * t) W (by omega) (by omega))
 have HH := hid (fun W => half_any n W (by omega) (by omega))
 have HW := hid (fun a c W hS => word_simple 12 a c (revP n) (halfW n) W hS (by unfold revP; simp; omega) (by unfold revP; simp; omega) (by omega) g1)
 have hrv : (revP n).length = n := by unfold revP; simp
 have HI := hid (fun a c W hS => inverse_any a c (halfW n) W hS (by omega) g4)
 have HA := hid (fun W => babs_any (-2 * t) W (by omega) (by omega))
 have h2 : absI (-2 * t) = 2 := by rcases ht with rfl | rfl <;> rfl
 rw [h2] at HA
 obtain ⟨h, hh⟩ : ∃ h, h = -2 * t := ⟨_, rfl⟩
 rw [← hh] at HF HA ⊢
 have hspl : spW t n = (if h < 0 then invW (halfW n) else halfW n) ++ (if h < 0 then invW (halfW n) else halfW n) := by
  unfold spW
  rcases ht with rfl | rfl
  ·have h0 : h < 0 := by omega
   simp only [if_pos h0, g5]
   rfl
  ·have h0 : ¬ h < 0 := by omega
   simp only [if_neg h0]
   rfl
 rw [hspl]
 rw [hrv] at HW
 obtain ⟨R, hR⟩ : ∃ R, R = revP n := ⟨_, rfl⟩
 rw [← hR] at HH HW hrv
 have hil : (invW (halfW n)).length = (halfW n).length := by unfold invW; simp
 obtain ⟨T, hT⟩ : ∃ T, T = halfW n := ⟨_, rfl⟩
 rw [← hT] at HW HI hil g2 g3 ⊢
 obtain ⟨V, hV⟩ : ∃ V, V = invW T := ⟨_, rfl⟩
 rw [← hV] at HI hil ⊢
 have hv1 : 0 < V.length := by omega
 have hv2 : V.length ≤ 6 := by omega
 have HL := hid hrv
 clear hil
 obtain ⟨LL, hLL⟩ : ∃ LL, LL = (if h < 0 then V else T) ++ (if h < 0 then V else T) := ⟨_, rfl⟩
 rw [← hLL]
 have HLL := hid hLL
 clear hLL
 have q := heap_alloc_new w (.cells #[.int .i64 h, .slice none 0 0] 33)
 have hb0 := bal (Below.refl w.heap.size w) (.cells #[.int .i64 h, .slice none 0 0] 33)
 clear g1 g4 g5 h2 hspl hR hT hV hrv ht hn hh
 have CR : ∀ (L : List Int) (a : Option Addr) (c : Nat) W, 0 < L.length → L.length ≤ 6 → Ints W a c L → Calls Tryz.prog 32 #[.slice a L.length c, .int .i64 2] W fun r w' => ∃ v, r = .returned v ∧ OwnI W.heap.size w' v (L ++ L) ∧ Below W.heap.size W w' := fun L a c W h0 h6 hS => by
  have h3 := Repeat_any a c 2 L W hS h0 (by omega) (by decide) (by decide)
  rwa [cycTwo9] at h3
 go_enter Tryz.func9, Tryz.ntmps9
 go_wp2_with (with_reducible refine wpList_ldS (n := 2) (us := #[.int .i64 h, .slice none 0 0]) A_form kR wU wU (by assumption) wU wU ?_)
 refine (HF.out _).mono ?_
 rintro e w2 ⟨rfl, b2⟩
 have q2 := (b2.block _ (Array.getElem?_eq_some_iff.1 q).1).trans q
 replace b2 := bnext hb0 b2
 go_wp2_with fail
 refine (HH.out _).mono ?_
 rintro e w3 ⟨v3, rfl, ho3, b3⟩
 obtain ⟨a3, c3, rfl, h3, _, _⟩ := ho3.reps
 have t3 := bnext b2 b3
 have q3 := (b3.block _ (Array.getElem?_eq_some_iff.1 q2).1).trans q2
 rw [HL.out]
 clear ho3 b2 b3
 go_wp2_with fail
 refine (HW.out _ _ _ h3).mono ?_
 rintro e w4 ⟨v4, rfl, ho4, b4⟩
 obtain ⟨a4, c4, rfl, h4, _, _⟩ := ho4.reps
 have t4 := bnext t3 b4
 have q4 := (b4.block _ (Array.getElem?_eq_some_iff.1 q3).1).trans q3
 clear ho4 t3 b4 h3
 by_cases h0 : h < 0
 ·have eLL : V ++ V = LL := by rw [HLL.out, if_pos h0]
  have d0 : decide (h < 0) = true := decide_eq_true h0
  clear h0
  go_wp2_with (first | (with_reducible refine wpList_ldB F_sls wU wU (by assumption) wU ?_) | (with_reducible refine wpList_ldB F_int wU wU (by assumption) wU ?_))
  refine (HI.out _ _ _ h4).mono ?_
  rintro e w5 ⟨v5, rfl, ho5, b5⟩
  obtain ⟨a5, c5, rfl, h5, _, _⟩ := ho5.reps
  have t5 := bnext t4 b5
  have q5 := (b5.block _ (Array.getElem?_eq_some_iff.1 q4).1).trans q4
  clear ho5 t4 b5
  go_wp2_with (first | (with_reducible refine wpList_ldB F_sls wU wU (by assumption) wU ?_) | (with_reducible refine wpList_ldB F_int wU wU (by assumption) wU ?_))
  refine (HA.out _).mono ?_
  rintro e w20 ⟨rfl, rfl⟩
  go_wp2_with fail
  refine (CR V a5 c5 _ (by omega) (by omega) h5).mono ?_
  rintro e w21 ⟨v21, rfl, ho21, b21⟩
  obtain ⟨a21, c21, rfl, h21, _, _⟩ := ho21.reps
  have t21 := bnext t5 b21
  have q21 := (b21.block _ (Array.getElem?_eq_some_iff.1 q5).1).trans q5
  have hll : (V ++ V).length ≤ 200 := by simp; omega
  rw [eLL] at h21 hll
  rw [eLL]
  clear ho21 b21 eLL
  go_wp2_with (first | (with_reducible refine wpList_ldB F_sls wU wU (by assumption) wU ?_) | (with_reducible refine wpList_ldB F_int wU wU (by assumption) wU ?_))
  go_loopw [33, 8, 10] (fun iv ov _ wr => iv = .int .i64 0 ∧ ov = .slice a21 LL.length c21 ∧ Below w21.heap.size w21 wr) (fun _ _ _ _ => 0)
  case atStart => exact ⟨rfl, rfl, Below.refl _ _⟩
  case round =>
   obtain ⟨rfl, rfl, hbr⟩ := hrel
   have hz := h21.below hbr
   have tz := bnext t21 hbr
   clear h21 hbr t21
   go_wp2_with fail
   refine (limited_any _ _ _ _ hll).mono ?_
   rintro e w30 ⟨rfl, rfl⟩
   go_wp2_with fail
   go_ret2
   exact ⟨_, _, rfl, hz, tz⟩
 ·have eLL : T ++ T = LL := by rw [HLL.out, if_neg h0]
  have d0 : decide (h < 0) = false := decide_eq_false h0
  clear h0
  go_wp2_with (first | (with_reducible refine wpList_ldB F_sls wU wU (by assumption) wU ?_) | (with_reducible refine wpList_ldB F_int wU wU (by assumption) wU ?_))
  refine (HA.out _).mono ?_
  rintro e w20 ⟨rfl, rfl⟩
  go_wp2_with fail
  refine (CR T a4 c4 _ (by omega) (by omega) h4).mono ?_
  rintro e w21 ⟨v21, rfl, ho21, b21⟩
  obtain ⟨a21, c21, rfl, h21, _, _⟩ := ho21.reps
  have t21 := bnext t4 b21
  have q21 := (b21.block _ (Array.getElem?_eq_some_iff.1 q4).1).trans q4
  have hll : (T ++ T).length ≤ 200 := by simp; omega
  rw [eLL] at h21 hll
  rw [eLL]
  clear ho21 b21 eLL
  go_wp2_with (first | (with_reducible refine wpList_ldB F_sls wU wU (by assumption) wU ?_) | (with_reducible refine wpList_ldB F_int wU wU (by assumption) wU ?_))
  go_loopw [33, 8, 10] (fun iv ov _ wr => iv = .int .i64 0 ∧ ov = .slice a21 LL.length c21 ∧ Below w21.heap.size w21 wr) (fun _ _ _ _ => 0)
  case atStart => exact ⟨rfl, rfl, Below.refl _ _⟩
  case round =>
   obtain ⟨rfl, rfl, hbr⟩ := hrel
   have hz := h21.below hbr
   have tz := bnext t21 hbr
   clear h21 hbr t21
   go_wp2_with fail
   refine (limited_any _ _ _ _ hll).mono ?_
   rintro e w30 ⟨rfl, rfl⟩
   go_wp2_with fail
   go_ret2
   exact ⟨_, _, rfl, hz, tz⟩
end Go.Proofs.YtdeoogbiipodmaaGreat

namespace Go.Proofs.YtdeoogbiipodmaaGreat
open Go.RowKit
set_option maxHeartbeats 8000000
set_option maxRecDepth 100000
theorem ht_out1 (t : Int) (al aw : Option Addr) (cl cw : Nat) (l ww : List Int) (w : World) (hL : Ints w al cl l) (hW : Ints w aw cw ww) (h2 : l.length < 2) :
  Calls Tryz.prog 3 #[.int .i64 t, .slice al l.length cl, .slice aw ww.length cw] w fun r w' => r = .returned (.bool true) ∧ Below w.heap.size w w' := by
 have hS0 := (SL.nil w).box (.cells #[.bool false, .int .i64 1, .int .i64 t, .slice none 0 0] 24)
 have HHW := hid hawserWeaves_any
 have d1 : decide ((l.length : Int) < 2) = true := decide_eq_true (by omega)
 have d2 : decide (l.length < 2) = true := decide_eq_true (by omega)
 have hlc := hL.le
 go_enter Tryz.func3, Tryz.ntmps3
 go_wp2_with fail
 refine (HHW.out _).mono ?_
 rintro e w1 ⟨rfl, b1⟩
 have hS1 := hS0.mono b1
 go_wp2_with fail
 go_ret
 exact ⟨rfl, hS1.b⟩
theorem ht_out2 (t : Int) (al aw : Option Addr) (cl cw : Nat) (l ww : List Int) (w : World) (hL : Ints w al cl l) (hW : Ints w aw cw ww) (h2 : 2 ≤ l.length) (hf : ¬ Fits (macT t) l 1 4) :
  Calls Tryz.prog 3 #[.int .i64 t, .slice al l.length cl, .slice aw ww.length cw] w fun r w' => r = .returned (.bool true) ∧ Below w.heap.size w w' := by
 have hS0 := (SL.nil w).box (.cells #[.bool false, .int .i64 1, .int .i64 t, .slice none 0 0] 24)
 have q := (hS0.blk 0 rfl).1
 have HHW := hid hawserWeaves_any
 have HF := hid (fun W (h : Ints W al cl l) => tfits_no (macT t) none al 0 cl l 1 4 W (ints_nil _) h hf)
 have d1 : decide ((l.length : Int) < 2) = false := decide_eq_false (by omega)
 have d2 : decide (l.length < 2) = false := decide_eq_false (by omega)
 have hlc := hL.le
 clear hf
 go_enter Tryz.func3, Tryz.ntmps3
 go_wp2_with (with_reducible refine wpList_ldS (n := 4) (us := #[.bool false, .int .i64 1, .int .i64 t, .slice none 0 0]) A_mach kR wU wU (by assumption) wU wU ?_)
 refine (HF.out _ (hL.below hS0.b)).mono ?_
 rintro e w1 ⟨rfl, b1⟩
 have hS1 := hS0.mono b1
 clear hS0 q b1
 go_wp2_with fail
 refine (HHW.out _).mono ?_
 rintro e w2 ⟨rfl, b2⟩
 have hS2 := hS1.mono b2
 go_wp2_with fail
 go_ret
 exact ⟨rfl, hS2.b⟩
theorem ht_out3 (t : Int) (al aw : Option Addr) (cl cw : Nat) (l ww : List Int) (w : World) (hL : Ints w al cl l) (hW : Ints w aw cw ww) (h2 : 2 ≤ l.length) (hf : Fits (macT t) l 1 4) (h6 : 6 < ww.length) :
  Calls Tryz.prog 3 #[.int .i64 t, .slice al l.length cl, .slice aw ww.length cw] w fun r w' => r = .returned (.bool true) ∧ Below w.heap.size w w' := by
 have hS0 := (SL.nil w).box (.cells #[.bool false, .int .i64 1, .int .i64 t, .slice none 0 0] 24)
 have q := (hS0.blk 0 rfl).1
 have HHW := hid hawserWeaves_any
 have HF := hid (fun W (h : Ints W al cl l) => tfits_ok (macT t) none al 0 cl l 1 4 W (ints_nil _) h hf)
 have d1 : decide ((l.length : Int) < 2) = false := decide_eq_false (by omega)
 have d2 : decide (l.length < 2) = false := decide_eq_false (by omega)
 have d3 : decide ((6 : Int) < (ww.length : Int)) = true := decide_eq_true (by omega)
 have d4 : decide (6 < ww.length) = true := decide_eq_true (by omega)
 have hlc := hL.le
 have hwc := hW.le
 clear hf
 go_enter Tryz.func3, Tryz.ntmps3
 go_wp2_with (with_reducible refine wpList_ldS (n := 4) (us := #[.bool false, .int .i64 1, .int .i64 t, .slice none 0 0]) A_mach kR wU wU (by assumption) wU wU ?_)
 refine (HF.out _ (hL.below hS0.b)).mono ?_
 rintro e w1 ⟨rfl, b1⟩
 have hS1 := hS0.mono b1
 clear hS0 q b1
 go_wp2_with fail
 refine (HHW.out _).mono ?_
 rintro e w2 ⟨rfl, b2⟩
 have hS2 := hS1.mono b2
 go_wp2_with fail
 go_ret
 exact ⟨rfl, hS2.b⟩
theorem ht_out4 (t : Int) (al aw : Option Addr) (cl cw : Nat) (l ww : List Int) (w : World) (hL : Ints w al cl l) (hW : Ints w aw cw ww) (h2 : 2 ≤ l.length) (hf : Fits (macT t) l 1 4) (h6 : ww.length ≤ 6) (hww : wordE (l.length : Int) ww ≠ 0) :
  Calls Tryz.prog 3 #[.int .i64 t, .slice al l.length cl, .slice aw ww.length cw] w fun r w' => r = .returned (.bool true) ∧ Below w.heap.size w w' := by
 have hS0 := (SL.nil w).box (.cells #[.bool false, .int .i64 1, .int .i64 t, .slice none 0 0] 24)
 have q := (hS0.blk 0 rfl).1
 have HHW := hid hawserWeaves_any
 have HF := hid (fun W (h : Ints W al cl l) => tfits_ok (macT t) none al 0 cl l 1 4 W (ints_nil _) h hf)
 have CW := fun W (h : Ints W aw cw ww) => rCheckWord_any (l.length : Int) aw cw ww W h
 obtain ⟨E, hE⟩ : ∃ E, E = wordE (l.length : Int) ww := ⟨_, rfl⟩
 rw [← hE] at CW hww
 have HCW := hid CW
 have dE : (E != 0) = true := by simpa using hww
 have d1 : decide ((l.length : Int) < 2) = false := decide_eq_false (by omega)
 have d2 : decide (l.length < 2) = false := decide_eq_false (by omega)
 have d3 : decide ((6 : Int) < (ww.length : Int)) = false := decide_eq_false (by omega)
 have d4 : decide (6 < ww.length) = false := decide_eq_false (by omega)
 have hlc := hL.le
 have hwc := hW.le
 clear hf CW hE hww
 go_enter Tryz.func3, Tryz.ntmps3
 go_wp2_with (with_reducible refine wpList_ldS (n := 4) (us := #[.bool false, .int .i64 1, .int .i64 t, .slice none 0 0]) A_mach kR wU wU (by assumption) wU wU ?_)
 refine (HF.out _ (hL.below hS0.b)).mono ?_
 rintro e w1 ⟨rfl, b1⟩
 have hS1 := hS0.mono b1
 clear hS0 q b1
 go_wp2_with fail
 refine (HCW.out _ (hW.below hS1.b)).mono ?_
 rintro e w3 ⟨rfl, b3⟩
 have hS3 := hS1.mono b3
 clear hS1 b3
 go_wp2_with fail
 refine (HHW.out _).mono ?_
 rintro e w2 ⟨rfl, b2⟩
 have hS2 := hS3.mono b2
 go_wp2_with fail
 go_ret
 exact ⟨rfl, hS2.b⟩
theorem ht_main (t : Int) (al aw : Option Addr) (cl cw : Nat) (l ww : List Int) (w : World) (hL : Ints w al cl l) (hW : Ints w aw cw ww) (h2 : 2 ≤ l.length) (hf : Fits (macT t) l 1 4) (h6 : ww.length ≤ 6) (hww : wordE (l.length : Int) ww = 0) :
  Calls Tryz.prog 3 #[.int .i64 t, .slice al l.length cl, .slice aw ww.length cw] w fun r w' => r = .returned (.bool true) ∧ Below w.heap.size w w' := by
 have hS0 := (SL.nil w).box (.cells #[.bool false, .int .i64 1, .int .i64 t, .slice none 0 0] 24)
 have q := (hS0.blk 0 rfl).1
 have HHW := hid hawserWeaves_any
 have HF := hid (fun W (h : Ints W al cl l) => tfits_ok (macT t) none al 0 cl l 1 4 W (ints_nil _) h hf)
 have CW := fun W (h : Ints W aw cw ww) => rCheckWord_any (l.length : Int) aw cw ww W h
 rw [hww] at CW
 have HCW := hid CW
 have h4 : l.length ≤ 4 := by have := hf.2.2.1; omega
 have hz := hf.2.2.2
 have ht : t = 1 ∨ t = -1 := (loadE_zero hz).ok.turn
 obtain ⟨ms, hT⟩ := twL_ok hz h2 h4
 have hvl : l.length * (l.length - 1) ≤ 12 := by
  have : l.length = 2 ∨ l.length = 3 ∨ l.length = 4 := by omega
  rcases this with e | e | e <;> rw [e] <;> decide
 have CWD : ∀ W, Ints W al cl l → Calls Tryz.prog 7 #[mV (macT t) none 0, .slice al l.length cl, .int .i64 (4 : Nat)] W fun r w' => ∃ v, r = .returned (.tuple #[v, .int .i64 0]) ∧ OwnI W.heap.size w' v (wrdL (macT t) l (4 : Nat)) ∧ Below W.heap.size W w' := by
  intro W h
  have h3 := mWord_any (macT t) none 0 al cl l (4 : Nat) W (ints_nil _) h (CheckLoad_any (macT t) none 0 al cl l fun w h => CheckMachine_any (macT t) none 0 w h (by show InI (1 : Int); unfold InI; omega))
  rw [hT.we, if_pos rfl] at h3
  exact h3
 obtain ⟨V, hV⟩ : ∃ V, V = wrdL (macT t) l (4 : Nat) := ⟨_, rfl⟩
 obtain ⟨S, hSp⟩ : ∃ S, S = spW t l.length := ⟨_, rfl⟩
 rw [← hV] at CWD hT
 rw [← hSp] at hT
 have CSP := fun W => spell_two l.length t W (by omega) ht
 rw [← hSp] at CSP
 have hVl := hT.vlen
 have hSl := hT.slen
 have CNM : ∀ (a : Option Addr) (c : Nat) W, Ints W a c V → Calls Tryz.prog 8 #[.int .i64 l.length, .slice a V.length c] W fun r w' => ∃ a2 c2, r = .returned (.tuple #[.agg #[.int .i64 (-2 * t), .slice a2 0 c2], .int .i64 0]) ∧ Below W.heap.size W w' := by
  intro a c W h
  have h3 := Normal_any l.length a c V W h hT.vw
  rw [hT.vform] at h3
  refine h3.mono ?_
  rintro e w' ⟨v, rfl, ⟨a2, c2, H, rfl, -, -⟩, b⟩
  exact ⟨a2, c2, rfl, b⟩
 have CC1 := fun (a : Option Addr) (c : Nat) W (h : Ints W a c V) (h2 : Ints W aw cw ww) => bConcat_any l.length a aw c cw V ww W h h2 hT.vw hww (by omega)
 have CC2 := fun (a : Option Addr) (c : Nat) W (h : Ints W a c V) (h2 : Ints W aw cw ww) => bConcat_any l.length aw a cw c ww V W h2 h hww hT.vw (by omega)
 have CEQ := fun (a b : Option Addr) (c d : Nat) W (h : Ints W a c (V ++ ww)) (h2 : Ints W b d (ww ++ V)) => Equal_any l.length a b c d (V ++ ww) (ww ++ V) W h h2 (wordE_app2 hT.vw hww (by omega)) (wordE_app2 hww hT.vw (by omega))
 rw [decide_eq_true (hT.comm ww hww)] at CEQ
 have CPV := fun (a b : Option Addr) (c d : Nat) W (h : Ints W a c V) (h2 : Ints W b d S) => prove_any l.length a b c d V S S ms W h h2 (by omega) hT.vw hT.sw (by omega) (hT.vform.trans hT.sform.symm) hT.prov hT.all hT.good hT.many
 have CCM := fun (a b m : Option Addr) (c d e : Nat) W (h : Ints W a c V) (h2 : Ints W b d S) (h3 : Reps cMvM 3 W m e ms) => bCheckMoves_any l.length a b m c d e V S ms W h h2 h3 (by omega) hT.vw hT.sw hT.all hT.good (by have := hT.many; omega) hT.fold (by omega)
 obtain ⟨X, hX⟩ : ∃ X, X = V ++ ww := ⟨_, rfl⟩
 obtain ⟨Y, hY⟩ : ∃ Y, Y = ww ++ V := ⟨_, rfl⟩
 rw [← hX] at CC1 CEQ
 rw [← hY] at CC2 CEQ
 obtain ⟨H, hH⟩ : ∃ H, H = -2 * t := ⟨_, rfl⟩
 have e1 : IntKind.i64.wrap (-2 * t) = H := by rw [hH]; exact IntWalk.i64_in _ (by omega)
 rw [← hH] at CNM CSP
 have dH : (H != H) = false := by simp
 obtain ⟨K1, hK1⟩ : ∃ K1, K1 = l.length - 1 := ⟨_, rfl⟩
 have e2 : IntKind.i64.wrap ((l.length : Int) - 1) = (K1 : Int) := by rw [IntWalk.i64_in _ (by omega)]; omega
 have e3 : IntKind.i64.wrap ((l.length : Int) * (K1 : Int)) = (V.length : Int) := by
  rw [hVl, ← hK1] 
  rw [← hK1] at hvl
  rw [IntWalk.i64_in _ (by rw [← Int.natCast_mul]; omega), Int.natCast_mul]
 have dV : ((V.length : Int) != (V.length : Int)) = false := by simp
 have HWD : Hid (∀ W, Ints W al cl l → Calls Tryz.prog 7 #[mV (macT t) none 0, .slice al l.length cl, .int .i64 4] W fun r w' => ∃ v, r = .returned (.tuple #[v, .int .i64 0]) ∧ OwnI W.heap.size w' v V ∧ Below W.heap.size W w') := hid CWD
 have HSP := hid CSP; have HNM := hid CNM; have HC1 := hid CC1; have HC2 := hid CC2; have HEQ := hid CEQ; have HPV := hid CPV; have HCM := hid CCM
 have d1 : decide ((l.length : Int) < 2) = false := decide_eq_false (by omega)
 have d2 : decide (l.length < 2) = false := decide_eq_false (by omega)
 have d3 : decide ((6 : Int) < (ww.length : Int)) = false := decide_eq_false (by omega)
 have d4 : decide (6 < ww.length) = false := decide_eq_false (by omega)
 have hlc := hL.le
 have hwc := hW.le
 clear hf CW hww CWD CSP CNM CC1 CC2 CEQ CPV CCM hV hSp hX hY hH hK1 hT hVl hSl hvl hz ht h4
 go_enter Tryz.func3, Tryz.ntmps3
 go_wp2_with (with_reducible refine wpList_ldS (n := 4) (us := #[.bool false, .int .i64 1, .int .i64 t, .slice none 0 0]) A_mach kR wU wU (by assumption) wU wU ?_)
 refine (HF.out _ (hL.below hS0.b)).mono ?_
 rintro e w1 ⟨rfl, b1⟩
 have hS1 := hS0.mono b1
 clear hS0 q b1
 go_wp2_with fail
 refine (HCW.out _ (hW.below hS1.b)).mono ?_
 rintro e w2 ⟨rfl, b2⟩
 have hS2 := hS1.mono b2
 clear hS1 b2
 have q := (hS2.blk 0 rfl).1
 go_wp2_with (with_reducible refine wpList_ldS (n := 4) (us := #[.bool false, .int .i64 1, .int .i64 t, .slice none 0 0]) A_mach kR wU wU (by assumption) wU wU ?_)
 refine (HWD.out _ (hL.below hS2.b)).mono ?_
 rintro e w3 ⟨v3, rfl, ho3, b3⟩
 obtain ⟨aV, cV, rfl, hV3, -, -⟩ := ho3.reps
 have t3 := bnext hS2.b b3
 clear hS2 q b3 ho3
 go_wp2_with fail
 refine (HNM.out _ _ _ hV3).mono ?_
 rintro e w4 ⟨aF, cF, rfl, b4⟩
 have hV4 := hV3.below b4
 have t4 := bnext t3 b4
 clear hV3 t3 b4
 have hF := (SL.nil w4).box (.cells #[.int .i64 H, .slice aF 0 cF] 33)
 go_wp2_with fail
 obtain ⟨BF, hBF⟩ : ∃ B, B = w4.heap.size := ⟨_, rfl⟩
 obtain ⟨w5, hw5⟩ : ∃ w5, w5 = w4.alloc (.cells #[.int .i64 H, .slice aF 0 cF] 33) := ⟨_, rfl⟩
 have qF : w5.heap[BF]? = some (.cells #[.int .i64 H, .slice aF 0 cF] 33) := by rw [hw5, hBF]; exact (hF.blk 0 rfl).1
 have b5 : Below w4.heap.size w4 w5 := by rw [hw5]; exact hF.b
 rw [← hw5, ← hBF]
 have hV5 := hV4.below b5
 have t5 := bnext t4 b5
 clear hF hw5 hBF hV4 t4 b5
 refine (HSP.out _).mono ?_
 rintro e w6 ⟨aS, cS, rfl, hS6, b6⟩
 have hV6 := hV5.below b6
 have qF6 := (b6.block BF (Array.getElem?_eq_some_iff.1 qF).1).trans qF
 have t6 := bnext t5 b6
 clear hV5 qF b6 t5
 go_wp2_with fail
 refine (HC1.out _ _ _ hV6 (hW.below t6)).mono ?_
 rintro e w7 ⟨v7, rfl, ho7, b7⟩
 obtain ⟨aX, cX, rfl, hX7, -, -⟩ := ho7.reps
 have hV7 := hV6.below b7
 have hS7 := hS6.below b7
 have qF7 := (b7.block BF (Array.getElem?_eq_some_iff.1 qF6).1).trans qF6
 have t7 := bnext t6 b7
 clear hV6 hS6 qF6 b7 t6 ho7
 go_wp2_with fail
 refine (HC2.out _ _ _ hV7 (hW.below t7)).mono ?_
 rintro e w8 ⟨v8, rfl, ho8, b8⟩
 obtain ⟨aY, cY, rfl, hY8, -, -⟩ := ho8.reps
 have hV8 := hV7.below b8
 have hS8 := hS7.below b8
 have hX8 := hX7.below b8
 have qF8 := (b8.block BF (Array.getElem?_eq_some_iff.1 qF7).1).trans qF7
 have t8 := bnext t7 b8
 clear hV7 hS7 hX7 qF7 b8 t7 ho8
 go_wp2_with fail
 refine (HEQ.out _ _ _ _ _ hX8 hY8).mono ?_
 rintro e w9 ⟨rfl, b9⟩
 have hV9 := hV8.below b9
 have hS9 := hS8.below b9
 have qF9 := (b9.block BF (Array.getElem?_eq_some_iff.1 qF8).1).trans qF8
 have t9 := bnext t8 b9
 clear hV8 hS8 hX8 hY8 qF8 b9 t8
 go_wp2_with (first | (with_reducible refine wpList_ldB (v := .int .i64 H) F_int wU wU (by assumption) wU ?_) | (with_reducible refine wpList_ldB (v := .slice aF 0 cF) F_sls wU wU (by assumption) wU ?_))
 refine (HPV.out _ _ _ _ _ hV9 hS9).mono ?_
 rintro e w10 ⟨aM, cM, rfl, hM10, b10⟩
 have hM := reps_of_own hM10 rfl
 have hV10 := hV9.below b10
 have hS10 := hS9.below b10
 have t10 := bnext t9 b10
 clear hV9 hS9 qF9 b10 t9 hM10
 go_wp2_with fail
 refine (HCM.out _ _ _ _ _ _ _ hV10 hS10 hM).mono ?_
 rintro e w11 ⟨rfl, b11⟩
 have t11 := bnext t10 b11
 clear hV10 hS10 hM b11 t10
 go_wp2_with fail
 refine (HHW.out _).mono ?_
 rintro e w12 ⟨rfl, b12⟩
 go_wp2_with fail
 go_ret
 exact ⟨rfl, bnext t11 b12⟩
theorem TopHawserTwists_any (t : Int) (al aw : Option Addr) (cl cw : Nat) (l ww : List Int) (w : World) (hL : Ints w al cl l) (hW : Ints w aw cw ww) :
  Calls Tryz.prog 3 #[.int .i64 t, .slice al l.length cl, .slice aw ww.length cw] w fun r w' => r = .returned (.bool true) ∧ Below w.heap.size w w' := by
 by_cases h2 : l.length < 2
 ·exact ht_out1 t al aw cl cw l ww w hL hW h2
 ·by_cases hf : Fits (macT t) l 1 4
  ·by_cases h6 : 6 < ww.length
   ·exact ht_out3 t al aw cl cw l ww w hL hW (by omega) hf h6
   ·by_cases hww : wordE (l.length : Int) ww = 0
    ·exact ht_main t al aw cl cw l ww w hL hW (by omega) hf (by omega) hww
    ·exact ht_out4 t al aw cl cw l ww w hL hW (by omega) hf (by omega) hww
  ·exact ht_out2 t al aw cl cw l ww w hL hW (by omega) hf
end Go.Proofs.YtdeoogbiipodmaaGreat
