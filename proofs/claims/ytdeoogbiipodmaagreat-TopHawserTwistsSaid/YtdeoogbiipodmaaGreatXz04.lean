/- Contracts and plain facts that the claim uses (NfV BsA BsB BsC MaA MaB MaD). Conditions: as each one states. -/
import Derived.Test.YtdeoogbiipodmaaGreatProg
import Derived.WalkKit
import Derived.WalkSpells
import Derived.Maps.AppendAt
import Derived.Deep.Quiet
import Derived.Maps.Own
import Derived.Maps.OwnSet
import Derived.Maps.Views
import Derived.WalkLawsBesides
import Derived.Laws.EntriesVeiled
import Derived.RangeFuncNested
import Derived.RangeFuncBound
import Derived.RangeFuncCalls
import Derived.RangeFuncLeaves
import Derived.RangeFuncFrom
import Derived.Shelf.Abstract
import Derived.Shelf.RegionOpen
import Derived.OwnWalkIn
import Derived.TacticsInMore
import Derived.LoopNIn
import Derived.LoopIn
import Derived.Deep.QuietTactic
import Derived.BigQuiet
import Derived.Shelf.Strings.Trim
import Derived.Shelf.Strings.SlTrimAscii
import Derived.Shelf.Strings.Repeat
import Derived.Shelf.Strings.OnBuilder
import Derived.Shelf.Strconv.Itoa1
import Derived.Shelf.Strconv.Itoa3
import Derived.Shelf.LaysM
import Derived.Ground.Names2Prog
import Derived.Lib.OthersKept
import Derived.Deep.RegionHeld3
import Derived.Deep.AppendLies
import Derived.Deep.RegionHeldLaw
import Derived.Deep.RegionLaw
import Derived.StillTail
import Derived.Laws.Tables
import Derived.IntWalk
import Derived.Laws.CopyOwn
import Derived.BigRegion
import Derived.ChangeAlike
import Derived.Shelf.Bits.Mul64
import Derived.Lib.ItoaLen
import Derived.Lib.ItoaMem
import Derived.Sort.LoopGhostIn
import Derived.Maps.RangeWalk
import Derived.Maps.Ext
import Derived.Test.YtdeoogbiipodmaaGreatXz01
import Derived.Test.YtdeoogbiipodmaaGreatXz02
import Derived.Test.YtdeoogbiipodmaaGreatXz03
set_option linter.all false

namespace Go.Proofs.YtdeoogbiipodmaaGreat
set_option maxRecDepth 100000
abbrev nth (X : List (List Int)) (k : Nat) : List Int := atD [] X (k : Int)
theorem nth_some {X : List (List Int)} {k : Nat} (h : k < X.length) : X[k]? = some (nth X k) := by simp [nth, atD, h]
theorem nth_eq {X : List (List Int)} {k : Nat} {a : List Int} (h : X[k]? = some a) : nth X k = a := by
 have hk : k < X.length := by
  rcases Nat.lt_or_ge k X.length with h1 | h1
  ·exact h1
  ·rw [List.getElem?_eq_none h1] at h; cases h
 rw [nth_some hk] at h
 exact Option.some.inj h
/-- the pairs ahead of k are settled. -/
def Settled (n : Nat) (X : List (List Int)) (k : Nat) : Prop := ∀ j, j < k → j + 1 < X.length → PairOk (garN n).toGar (nth X j) (nth X (j + 1))
def pullX (X : List (List Int)) (k i : Nat) : List (List Int) := (X.set k (bkP (nth X k) i)).set (k + 1) (swpL (nth X (k + 1)) i)
theorem pullX_len (X : List (List Int)) (k i : Nat) : (pullX X k i).length = X.length := by simp [pullX]
theorem nth_pull {X : List (List Int)} {k i j : Nat} (h1 : j ≠ k) (h2 : j ≠ k + 1) : nth (pullX X k i) j = nth X j := by
 unfold pullX nth atD
 simp only [List.getD_eq_getElem?_getD, Int.toNat_natCast]
 rw [List.getElem?_set_ne (by omega), List.getElem?_set_ne (by omega)]
section
variable {n : Nat} {X : List (List Int)} {k i : Nat}
theorem pullX_pull (hk : k + 1 < X.length) (h : folP n (nth X k) (nth X (k + 1)) = some i) : Pull (garN n).toGar X (pullX X k i) := by
 obtain ⟨h1, h2, h3⟩ := fol_some h
 exact pull_at (G := (garN n).toGar) (nth_some (by omega)) (nth_some hk) h1 h2 h3
theorem pullX_vs (hv : Vs (garN n).toGar X) (hk : k + 1 < X.length) (h : folP n (nth X k) (nth X (k + 1)) = some i) : Vs (garN n).toGar (pullX X k i) := (pullX_pull hk h).vs hv
theorem pullX_mu (hv : Vs (garN n).toGar X) (hk : k + 1 < X.length) (h : folP n (nth X k) (nth X (k + 1)) = some i) : muG (garN n).toGar (pullX X k i) < muG (garN n).toGar X := (pullX_pull hk h).mu hv
theorem Settled.pull {q : Nat} (hs : Settled n X q) (hq : q ≤ k) : Settled n (pullX X k i) (q - 1) := fun j hj hl => by
 rw [pullX_len] at hl
 rw [nth_pull (by omega) (by omega), nth_pull (by omega) (by omega)]
 exact hs j (by omega) hl
theorem Settled.pull' {q : Nat} (hs : Settled n X q) (hq : q + 1 ≤ k) : Settled n (pullX X k i) q := fun j hj hl => by
 rw [pullX_len] at hl
 rw [nth_pull (by omega) (by omega), nth_pull (by omega) (by omega)]
 exact hs j (by omega) hl
theorem Settled.le {q q' : Nat} (hs : Settled n X q) (h : q' ≤ q) : Settled n X q' := fun j hj hl => hs j (by omega) hl
theorem Settled.next (hs : Settled n X k) (h : folP n (nth X k) (nth X (k + 1)) = none) : Settled n X (k + 1) := fun j hj hl => by
 by_cases e : j = k
 ·rw [e]; exact fol_none h
 ·exact hs j (by omega) hl
theorem Settled.all (hs : Settled n X k) (h : X.length ≤ k + 1) : NoPull (garN n).toGar X := noPull_of fun j a b h1 h2 => by
 have hl : j + 1 < X.length := by
  rcases Nat.lt_or_ge (j + 1) X.length with h3 | h3
  ·exact h3
  ·rw [List.getElem?_eq_none h3] at h2; cases h2
 have := hs j (by omega) hl
 rwa [nth_eq h1, nth_eq h2] at this
theorem vs_nth (hv : Vs (garN n).toGar X) (hk : k < X.length) : VP n (nth X k) := hv _ (List.mem_of_getElem? (nth_some hk))
end
/-- what the walk of push keeps. -/
structure PushS (n : Nat) (X0 X : List (List Int)) (q : Nat) : Prop where
 star : Star (garN n).toGar X0 X
 vs : Vs (garN n).toGar X
 len : X.length = X0.length
 set : Settled n X q
theorem PushS.pull {n : Nat} {X0 X : List (List Int)} {q k i : Nat} (h : PushS n X0 X q) (hq : q + 1 ≤ k ∨ k = 0 ∧ q = 0) (hk : k + 1 < X.length) (hf : folP n (nth X k) (nth X (k + 1)) = some i) : PushS n X0 (pullX X k i) q :=
 ⟨h.star.trans (.one (pullX_pull hk hf)), pullX_vs h.vs hk hf, by rw [pullX_len, h.len], by
  rcases hq with hq | ⟨_, rfl⟩
  ·exact h.set.pull' hq
  ·exact fun j hj => by omega⟩
/-- the classes of the factors: k of them are done. -/
def halfN (n : Nat) (X : List (List Int)) : Int := ((X.filter (isD n)).length : Int)
theorem halfN_take {n : Nat} {X : List (List Int)} {k : Nat} (h : k < X.length) : halfN n (X.take (k + 1)) = halfN n (X.take k) + (if isD n (nth X k) then 1 else 0) := by
 have e : X.take (k + 1) = X.take k ++ [nth X k] := by rw [List.take_succ_eq_append_getElem h]; simp [nth, atD, h]
 unfold halfN
 rw [e, List.filter_append, List.length_append]
 cases hd : isD n (nth X k) <;> simp [hd]
/-- a permutation that rises is the identity. -/
theorem sorted_id {n : Nat} {p : List Int} (h : VP n p) (hs : ∀ i : Nat, i + 1 < n → ¬ atD 0 p ((i : Int) + 1) < atD 0 p (i : Int)) : p = idL n := by
 refine h.ext (idL_len n) fun x x0 x1 => ?_
 rw [idL_at x0 x1]
 exact h.up (fun i hi => by unfold bgP; exact decide_eq_false (hs i hi)) x x0 x1
theorem id_sorted {n : Nat} {i : Nat} (hi : i + 1 < n) : ¬ atD 0 (idL n) ((i : Int) + 1) < atD 0 (idL n) (i : Int) := by
 rw [idL_at (by omega) (by omega), idL_at (by omega) (by omega)]
 omega
/-- one letter more: the factors. -/
theorem fac_take (n : Nat) {w : List Int} {k : Nat} (h : k < w.length) : facL (garN n) [] (w.take (k + 1)) = facG (garN n) (facL (garN n) [] (w.take k)) (atD 0 w k) := by
 have e : w.take (k + 1) = w.take k ++ [atD 0 w k] := by rw [List.take_succ_eq_append_getElem h]; simp [atD, h]
 rw [e, facL_app]; rfl
theorem neg_take {w : List Int} {k : Nat} (h : k < w.length) : negC (w.take (k + 1)) = negC (w.take k) + (if atD 0 w k < 0 then 1 else 0) := by
 have e : w.take (k + 1) = w.take k ++ [atD 0 w k] := by rw [List.take_succ_eq_append_getElem h]; simp [atD, h]
 rw [e, negC_app]
 congr 1
 unfold negC
 by_cases c : atD 0 w k < 0
 ·simp [c]
 ·simp [c]
theorem fac_len (n : Nat) : ∀ (w : List Int) (L : List (List Int)), (facL (garN n) L w).length = L.length + w.length
 | [], L => rfl
 | x :: w, L => by
   show (facL (garN n) (facG (garN n) L x) w).length = _
   rw [fac_len n w]
   have : (facG (garN n) L x).length = L.length + 1 := by unfold facG; split <;> simp
   rw [this, List.length_cons]; omega
end Go.Proofs.YtdeoogbiipodmaaGreat

namespace Go.Proofs.YtdeoogbiipodmaaGreat
open Go.RowKit
set_option maxHeartbeats 8000000
set_option maxRecDepth 100000
theorem E_smp : ETy Tryz.prog 67 3 (.int .i64 0) 1 8 := ⟨Tryz.underlying67, by kernel_rfl, rfl, by decide⟩
theorem E_smps : ETy Tryz.prog 103 67 (.slice none 0 0) 1 24 := ⟨Tryz.underlying103, by kernel_rfl, rfl, by decide⟩
theorem F_smp : Flat Tryz.prog 67 := ⟨_, Tryz.underlying67, rfl⟩
theorem F_smps : Flat Tryz.prog 103 := ⟨_, Tryz.underlying103, rfl⟩
theorem get_mapI {l : List Int} {k : Int} (h0 : 0 ≤ k) (h1 : k < l.length) : l[k.toNat]?.map cInt = some (.int .i64 (atD 0 l k)) := by
 have : k.toNat < l.length := by omega
 simp [atD, this, cInt]
theorem begins_any (a : Option Addr) (cap : Nat) (p : List Int) (i : Nat) (w : World) (hS : Ints w a cap p) (hi : i + 1 < p.length) (hl : p.length ≤ 1000) :
  Calls Tryz.prog 74 #[.slice a p.length cap, .int .i64 i] w fun r w' => r = .returned (.bool (bgP p i)) ∧ Below w.heap.size w w' := by
 have hcap := hS.le
 have hmx := hS.max
 obtain ⟨I, hI⟩ : ∃ I : Int, I = i := ⟨_, rfl⟩
 obtain ⟨J, hJ⟩ : ∃ J : Int, J = (i : Int) + 1 := ⟨_, rfl⟩
 have hw : IntKind.i64.wrap (I + 1) = J := by rw [hI, hJ]; exact IntWalk.i64_in _ (by omega)
 have e : bgP p i = decide (atD 0 p J < atD 0 p I) := by rw [hI, hJ]; rfl
 rw [e, ← hI]
 have hI0 : 0 ≤ I := by omega
 have hI1 : I < (p.length : Int) := by omega
 have hJ0 : 0 ≤ J := by omega
 have hJ1 : J < (p.length : Int) := by omega
 obtain ⟨A, hA⟩ : ∃ A, A = atD 0 p I := ⟨_, rfl⟩
 obtain ⟨B, hB⟩ : ∃ B, B = atD 0 p J := ⟨_, rfl⟩
 rw [← hA, ← hB]
 have HA := hid hA; have HB := hid hB
 clear hA hB hI hJ e
 go_enter Tryz.func74, Tryz.ntmps74
 go_wp2_with fail
 refine wp_region_q kR kR ?_
 repeat (first | (((with_reducible refine wpB_idx2 0 E_smp F_int cInt1 wU (rfl) wU (hS) oD oD (fun _ => wU) (fun _ => ?_)); (try simp only [Act.put, pA, pB, pC]); (try simp only [cInt])); first | rw [← HA.out] | rw [← HB.out]) |  ((with_reducible refine wpB_load (by first | exact F_int | fail) wU wU (by assumption) wU ?_); (try simp only [Act.put, pA, pB, pC])) | ((with_reducible refine wpB_loadS (n := 2) (us := #[_, _]) (by fail) kR wU wU (by assumption) wU wU ?_); (try simp only [Act.put, pA, pB, pC])) | ((with_reducible refine wpB_loadS (n := 4) (us := #[_, _, _, _]) (by fail) kR wU wU (by assumption) wU wU ?_); (try simp only [Act.put, pA, pB, pC])) | ((refine wpQ_oneG ?_ wU (fun w' => ?_) ?_); rotate_left; (go_simp; rfl); (try simp only [Act.put, pA, pB, pC])))
 refine wpQuiet_nil ?_
 intro w1 hb1
 go_wp2_with fail
 go_ret
 exact ⟨rfl, hb1⟩
theorem ended_any (a : Option Addr) (cap : Nat) (p : List Int) (w : World) (hS : Ints w a cap p) (hp : IsP p) (hl : p.length ≤ 1000) :
  Calls Tryz.prog 93 #[.slice a p.length cap] w fun r w' => ∃ v, r = .returned v ∧ OwnI w.heap.size w' v (invL p) ∧ Below w.heap.size w w' := by
 have hcap := hS.le
 have hmx := hS.max
 have hS0 := SL.nil w
 have HL := hid hS
 have hrg := hid (fun (k : Nat) (h : k < p.length) => hp.rng k (by omega) (by omega))
 have hinv : Hid (invK p 0 = List.replicate p.length 0) := hid (by simp [invK])
 clear hS hp
 go_enter Tryz.func93, Tryz.ntmps93
 go_wp2_with ((with_reducible refine wpList_makeL (c := cInt) (p.length) (0) E_smp cInt1 wU wU (by omega) (by omega) (hS0) ?_); intro ad w1 hS1)
 rw [← hinv.out] at hS1
 go_loopw [11, 4, 5] (fun iv _ _ wr => ∃ k : Nat, k ≤ p.length ∧ iv = .int .i64 k ∧ SL w.heap.size w wr [pOwn cInt 1 3 (.slice ad p.length p.length) (invK p k)]) (fun iv _ _ _ => p.length - (intOf iv).toNat)
 case atStart => exact ⟨0, by omega, rfl, hS1⟩
 case round =>
  clear hS1
  obtain ⟨k, hk, rfl, hSr⟩ := hrel
  have hLr := HL.out.below hSr.b
  by_cases hlt : k < p.length
  ·obtain ⟨h0, h1⟩ := hrg.out k hlt
   have hsc := invK_succ p k
   have hkl := invK_len p k
   obtain ⟨X, hX⟩ : ∃ X, X = atD 0 p k := ⟨_, rfl⟩
   rw [← hX] at h0 h1 hsc
   obtain ⟨R, hR⟩ : ∃ R, R = invK p k := ⟨_, rfl⟩
   rw [← hR] at hSr hkl hsc
   have HX := hid hX; have HSC := hid hsc
   have hXR : X < (R.length : Int) := by omega
   clear hX hsc hR hkl
   go_wp2_with (first | ((with_reducible refine wpList_idx _ 0 E_smp F_int cInt1 wU wU (hLr) oD oD (fun _ => wU) (fun _ => ?_)); rw [← HX.out]) | ((with_reducible refine wpList_storeL (u := (k : Int)) 0 E_smp cInt1 (sto_int) wU wU (hSr) wU (by first | omega | (simp; done) | (simp; omega)) (by first | omega | (simp; done) | (simp; omega)) (fun _ => wU) (fun _ => wU) ?_); intro _ w4 hS4))
   exact ⟨⟨k + 1, by omega, by go_num, by rw [HSC.out]; exact hS4⟩, by simp [intOf]; omega⟩
  ·have hkk : k = p.length := by omega
   rw [hkk] at hSr
   have hkn : ¬ ((k : Int) < (p.length : Int)) := by omega
   clear hkk hlt hk
   go_wp2_with fail
   go_ret
   exact ⟨_, rfl, hSr.own 0 rfl, hSr.b⟩
theorem ends_any (a : Option Addr) (cap : Nat) (p : List Int) (i : Nat) (w : World) (hS : Ints w a cap p) (hp : IsP p) (hi : i + 1 < p.length) (hl : p.length ≤ 1000) :
  Calls Tryz.prog 97 #[.slice a p.length cap, .int .i64 i] w fun r w' => r = .returned (.bool (edP p i)) ∧ Below w.heap.size w w' := by
 have HE := hid (ended_any a cap p w hS hp hl)
 have hil := invL_len p
 have HB := hid (fun (a : Option Addr) (c : Nat) w (h : Ints w a c (invL p)) => begins_any a c (invL p) i w h (by rw [hil]; exact hi) (by rw [hil]; exact hl))
 have HI := hid hil
 clear hil
 go_enter Tryz.func97, Tryz.ntmps97
 go_wp2_with fail
 refine HE.out.mono ?_
 rintro e w1 ⟨v1, rfl, ho, b1⟩
 obtain ⟨a1, c1, rfl, h1, _, _⟩ := ho.reps
 go_wp2_with fail
 refine (HB.out a1 c1 _ h1).mono ?_
 rintro e w2 ⟨rfl, b2⟩
 go_wp2_with fail
 go_ret
 exact ⟨rfl, bnext b1 b2⟩
theorem CloneS_any (a : Option Addr) (cap : Nat) (l : List Int) (w : World) (hS : Ints w a cap l) (hsm : l.length ≤ 1048576) (h0 : 0 < l.length) :
  Calls Tryz.prog 73 #[.slice a l.length cap] w fun r w' => ∃ v, r = .returned v ∧ OwnI w.heap.size w' v l ∧ Below w.heap.size w w' := by
 have hcap := hS.le
 have hm := hS.max
 obtain ⟨b, o, rfl, _⟩ := hS.cells (by decide) 0 0 h0
 have heq := fun (w : World) (a : Option Addr) (n c : Nat) => Lib.run_eql_slice_nil (P := Tryz.prog) w 67 3 a n c 0 0 Tryz.underlying67
 go_enter Tryz.func73, Tryz.ntmps73
 go_wp2_with ((with_reducible refine wpList_app (B := w.heap.size) (l := []) (ys := l) E_smp wU wU (own_made0 cIntS w rfl (Nat.le_refl _)) (hS.alloc _) cIntO (by simp; omega) (by simp) (by simp; omega) ?_); intro v1 w1 ho1 hg1 _)
 go_ret
 refine ⟨v1, rfl, ho1, ?_⟩
 exact (bal (Below.refl _ _) _).grown hg1 (by simp) (fun k hk => by cases hk; exact Nat.le_refl _)
theorem fronted_any (a : Option Addr) (cap : Nat) (p : List Int) (i : Nat) (w : World) (hS : Ints w a cap p) (hi : i + 1 < p.length) (hl : p.length ≤ 1000) :
  Calls Tryz.prog 63 #[.slice a p.length cap, .int .i64 i] w fun r w' => ∃ v, r = .returned v ∧ OwnI w.heap.size w' v (swpL p i) ∧ Below w.heap.size w w' := by
 have HC := hid (CloneS_any a cap p w hS (by omega) (by omega))
 obtain ⟨n, hn⟩ : ∃ n, n = p.length := ⟨_, rfl⟩
 rw [← hn] at HC ⊢
 obtain ⟨I, hI⟩ : ∃ I : Int, I = i := ⟨_, rfl⟩
 obtain ⟨J, hJ⟩ : ∃ J : Int, J = (i : Int) + 1 := ⟨_, rfl⟩
 have hw : IntKind.i64.wrap (I + 1) = J := by rw [hI, hJ]; exact IntWalk.i64_in _ (by omega)
 rw [← hI]
 have hI0 : 0 ≤ I := by omega
 have hI1 : I < (n : Int) := by omega
 have hJ0 : 0 ≤ J := by omega
 have hJ1 : J < (n : Int) := by omega
 obtain ⟨row, hrow⟩ : ∃ r, r = p := ⟨_, rfl⟩
 have hI2 : I < (row.length : Int) := by rw [hrow]; omega
 have hJ2 : J < (row.length : Int) := by rw [hrow]; omega
 have hnr : n = row.length := by rw [hrow]; exact hn
 rw [← hrow] at HC ⊢
 obtain ⟨A0, hA0⟩ : ∃ A, A = atD 0 row I := ⟨_, rfl⟩
 obtain ⟨A1, hA1⟩ : ∃ A, A = atD 0 row J := ⟨_, rfl⟩
 have HA0 : Hid (row[(I).toNat]?.map cInt = some (.int .i64 A0)) := hid (by rw [hA0]; exact get_mapI hI0 hI2)
 have HA1 : Hid (row[(J).toNat]?.map cInt = some (.int .i64 A1)) := hid (by rw [hA1]; exact get_mapI hJ0 hJ2)
 have HI5 : Hid ((row.set (I).toNat A1)[(J).toNat]?.map cInt = some (.int .i64 A1)) := hid (by rw [List.getElem?_set_ne (by omega)]; rw [hA1]; exact get_mapI hJ0 hJ2)
 have hsw : swpL row i = (row.set I.toNat A1).set J.toNat A0 := by
  unfold swpL
  rw [hA0, hA1, hI, hJ]
  rw [show ((i : Int) + 1).toNat = i + 1 by omega, show ((i : Int)).toNat = i by omega]
  unfold atD
  rw [show ((i : Int) + 1).toNat = i + 1 by omega, show ((i : Int)).toNat = i by omega]
 rw [hsw]
 have HNR := hid hnr
 clear hsw hA0 hA1 hI hJ hrow hn hnr hi hl hS
 go_enter Tryz.func63, Tryz.ntmps63
 go_wp2_with fail
 refine HC.out.mono ?_
 rintro e w2 ⟨v2, rfl, ho, b2⟩
 have hS2 := SL.ofOwn ho b2
 obtain ⟨ag, cp, hv, -⟩ := hS2.slice 0 rfl
 subst hv
 rw [← HNR.out] at hS2 ⊢
 obtain ⟨G, hG, -⟩ := hS2.setOwn cInt1 0 rfl I hI0 hI2 0
 subst hG
 clear ho b2
 go_wp2_with fail
 refine wp_regionK (C := (fun V => Below w.heap.size w V)) [0, 1, 2, 3, 4, 5, 6, 7, 8, 10, 11, 12] [_, _, _, _, _, _, _, _, _, _, _, _] 6 (by simp only [List.map_cons, List.map_nil, List.getElem?_toArray]; rfl) rfl kR kR kR (hS2.b.drew) ?_
 refine ⟨.slice (some ⟨G, 0, none⟩) n cp, yieldsK_val wU (fun w' => by first | (go_simp; done) | (go_simp; rfl)), ?_⟩
 go_frame
 refine ⟨.int .i64 I, yieldsK_val wU (fun w' => by first | (go_simp; done) | (go_simp; rfl)), ?_⟩
 go_frame
 refine ⟨.slice (some ⟨G, 0, none⟩) n cp, yieldsK_val wU (fun w' => by first | (go_simp; done) | (go_simp; rfl)), ?_⟩
 go_frame
 refine ⟨.int .i64 I, yieldsK_val wU (fun w' => by first | (go_simp; done) | (go_simp; rfl)), ?_⟩
 go_frame
 refine ⟨.int .i64 J, yieldsK_val wU (fun w' => by first | (go_simp; done) | (go_simp; rfl)), ?_⟩
 go_frame
 refine ⟨.slice (some ⟨G, 0, none⟩) n cp, yieldsK_val wU (fun w' => by first | (go_simp; done) | (go_simp; rfl)), ?_⟩
 go_frame
 refine ⟨.int .i64 I, yieldsK_val wU (fun w' => by first | (go_simp; done) | (go_simp; rfl)), ?_⟩
 go_frame
 refine ⟨.int .i64 J, yieldsK_val wU (fun w' => by first | (go_simp; done) | (go_simp; rfl)), ?_⟩
 go_frame
 refine ⟨.pointer (some ⟨G, (J).toNat, none⟩), yieldsK_val wU (fun w' => by first | (go_simp; done) | (go_simp; rfl)), ?_⟩
 go_frame
 refine ⟨.slice (some ⟨G, 0, none⟩) n cp, yieldsK_val wU (fun w' => by first | (go_simp; done) | (go_simp; rfl)), ?_⟩
 go_frame
 refine ⟨.int .i64 I, yieldsK_val wU (fun w' => by first | (go_simp; done) | (go_simp; rfl)), ?_⟩
 go_frame
 refine ⟨.pointer (some ⟨G, (I).toNat, none⟩), yieldsK_val wU (fun w' => by first | (go_simp; done) | (go_simp; rfl)), ?_⟩
 go_frame
 unfold wpPureK
 have hVd : ({ w2 with drawn := w2.drawn + 1 } : World) = w2.drew := rfl
 rw [hVd]
 clear hVd
 obtain ⟨W4, hW4⟩ : ∃ W4, W4 = w2.drew := ⟨_, rfl⟩
 have hS4 : SL w.heap.size w W4 [pOwn cInt 1 3 (.slice (some ⟨G, 0, none⟩) n cp) row] := by rw [hW4]; exact hS2.drew
 rw [← hW4]
 clear hW4 hS2
 obtain ⟨g0, eg0, -, hcI, -, -⟩ := hS4.setOwn cInt1 0 rfl (J) hJ0 hJ2 0
 cases eg0
 obtain ⟨g1, eg1, -, hcP, hfP, hS5⟩ := hS4.setOwn cInt1 0 rfl (I) hI0 hI2 A1
 cases eg1
 obtain ⟨g2, eg2, -, hcI5, hfI5, hS6⟩ := hS5.setOwn cInt1 0 rfl (J) hJ0 (by rw [List.length_set]; exact hJ2) A0
 cases eg2
 rw [HA1.out] at hcI
 rw [HA0.out] at hcP
 rw [HI5.out] at hcI5
 replace hS6 : SL w.heap.size w ((W4.setCell ⟨G, (I).toNat, none⟩ (.int .i64 A1)).setCell ⟨G, (J).toNat, none⟩ (.int .i64 A0)) [pOwn cInt 1 3 (.slice (some ⟨G, 0, none⟩) n cp) ((row.set (I).toNat A1).set (J).toNat A0)] := hS6
 refine wpAnyC_on [9, 13] kR (by simp) ?_
 simp only [List.forall_mem_cons, List.not_mem_nil, false_implies, implies_true, and_true]
 refine ⟨?_, ?_⟩
 ·as_aux_lemma =>
  refine wpOp_value (v := .int .i64 A1) (w' := W4) (by rw [List.getElem?_toArray]; rfl) wU (by first | (go_simp; done) | (go_simp; rfl) | (simp [execOp, Act.eval, Result.andThen]; done)) ?_
  refine ⟨hS4.b, ?_⟩
  go_frame
  refine wpAnyC_on [13] kR (by simp) ?_
  simp only [List.forall_mem_cons, List.not_mem_nil, false_implies, implies_true, and_true]
  refine wpOp_value (v := .int .i64 A0) (w' := W4) (by rw [List.getElem?_toArray]; rfl) wU (by first | (go_simp; done) | (go_simp; rfl) | (simp [execOp, Act.eval, Result.andThen]; done)) ?_
  refine ⟨hS4.b, ?_⟩
  go_frame
  refine wpAnyC_on [14] kR (by simp) ?_
  simp only [List.forall_mem_cons, List.not_mem_nil, false_implies, implies_true, and_true]
  refine wpOp_value (v := .pointer (some ⟨G, (I).toNat, none⟩)) (w' := W4) (by rw [List.getElem?_toArray]; rfl) wU (by first | (go_simp; done) | (go_simp; rfl) | (simp [execOp, Act.eval, Result.andThen]; done)) ?_
  refine ⟨hS4.b, ?_⟩
  go_frame
  refine wpAnyC_on [15] kR (by simp) ?_
  simp only [List.forall_mem_cons, List.not_mem_nil, false_implies, implies_true, and_true]
  refine wpOp_of_list (by rw [List.getElem?_toArray]; rfl) ?_
  refine wpList_stoAt (sto_int A1 _ _) wU wU hcP hfP ?_
  refine ⟨hS5.b, ?_⟩
  go_frame
  refine wpAnyC_on [16] kR (by simp) ?_
  simp only [List.forall_mem_cons, List.not_mem_nil, false_implies, implies_true, and_true]
  refine wpOp_value (v := .pointer (some ⟨G, (J).toNat, none⟩)) (w' := (W4.setCell ⟨G, (I).toNat, none⟩ (.int .i64 A1))) (by rw [List.getElem?_toArray]; rfl) wU (by first | (go_simp; done) | (go_simp; rfl) | (simp [execOp, Act.eval, Result.andThen]; done)) ?_
  refine ⟨hS5.b, ?_⟩
  go_frame
  refine wpAnyC_on [17] kR (by simp) ?_
  simp only [List.forall_mem_cons, List.not_mem_nil, false_implies, implies_true, and_true]
  refine wpOp_of_list (by rw [List.getElem?_toArray]; rfl) ?_
  refine wpList_stoAt (sto_int A0 _ _) wU wU hcI5 hfI5 ?_
  refine ⟨hS6.b, ?_⟩
  go_frame
  refine wpAnyC_rest [] [] rfl rfl kR kR kR hS6.b ?_
  unfold wpPure
  refine of_wpList_nil (P := Tryz.prog) (ops := #[]) ?_
  show wpList _ _ _ _ _ ((W4.setCell ⟨G, (I).toNat, none⟩ (.int .i64 A1)).setCell ⟨G, (J).toNat, none⟩ (.int .i64 A0))
  generalize ((W4.setCell ⟨G, (I).toNat, none⟩ (.int .i64 A1)).setCell ⟨G, (J).toNat, none⟩ (.int .i64 A0)) = w6 at *
  clear hS5 hS4 hcP hfP hcI5 hfI5 hcI
  go_wp2_with fail
  go_ret
  exact ⟨_, rfl, hS6.own 0 rfl, hS6.b⟩
 ·as_aux_lemma =>
  refine wpOp_value (v := .int .i64 A0) (w' := W4) (by rw [List.getElem?_toArray]; rfl) wU (by first | (go_simp; done) | (go_simp; rfl) | (simp [execOp, Act.eval, Result.andThen]; done)) ?_
  refine ⟨hS4.b, ?_⟩
  go_frame
  refine wpAnyC_on [9] kR (by simp) ?_
  simp only [List.forall_mem_cons, List.not_mem_nil, false_implies, implies_true, and_true]
  refine wpOp_value (v := .int .i64 A1) (w' := W4) (by rw [List.getElem?_toArray]; rfl) wU (by first | (go_simp; done) | (go_simp; rfl) | (simp [execOp, Act.eval, Result.andThen]; done)) ?_
  refine ⟨hS4.b, ?_⟩
  go_frame
  refine wpAnyC_on [14] kR (by simp) ?_
  simp only [List.forall_mem_cons, List.not_mem_nil, false_implies, implies_true, and_true]
  refine wpOp_value (v := .pointer (some ⟨G, (I).toNat, none⟩)) (w' := W4) (by rw [List.getElem?_toArray]; rfl) wU (by first | (go_simp; done) | (go_simp; rfl) | (simp [execOp, Act.eval, Result.andThen]; done)) ?_
  refine ⟨hS4.b, ?_⟩
  go_frame
  refine wpAnyC_on [15] kR (by simp) ?_
  simp only [List.forall_mem_cons, List.not_mem_nil, false_implies, implies_true, and_true]
  refine wpOp_of_list (by rw [List.getElem?_toArray]; rfl) ?_
  refine wpList_stoAt (sto_int A1 _ _) wU wU hcP hfP ?_
  refine ⟨hS5.b, ?_⟩
  go_frame
  refine wpAnyC_on [16] kR (by simp) ?_
  simp only [List.forall_mem_cons, List.not_mem_nil, false_implies, implies_true, and_true]
  refine wpOp_value (v := .pointer (some ⟨G, (J).toNat, none⟩)) (w' := (W4.setCell ⟨G, (I).toNat, none⟩ (.int .i64 A1))) (by rw [List.getElem?_toArray]; rfl) wU (by first | (go_simp; done) | (go_simp; rfl) | (simp [execOp, Act.eval, Result.andThen]; done)) ?_
  refine ⟨hS5.b, ?_⟩
  go_frame
  refine wpAnyC_on [17] kR (by simp) ?_
  simp only [List.forall_mem_cons, List.not_mem_nil, false_implies, implies_true, and_true]
  refine wpOp_of_list (by rw [List.getElem?_toArray]; rfl) ?_
  refine wpList_stoAt (sto_int A0 _ _) wU wU hcI5 hfI5 ?_
  refine ⟨hS6.b, ?_⟩
  go_frame
  refine wpAnyC_rest [] [] rfl rfl kR kR kR hS6.b ?_
  unfold wpPure
  refine of_wpList_nil (P := Tryz.prog) (ops := #[]) ?_
  show wpList _ _ _ _ _ ((W4.setCell ⟨G, (I).toNat, none⟩ (.int .i64 A1)).setCell ⟨G, (J).toNat, none⟩ (.int .i64 A0))
  generalize ((W4.setCell ⟨G, (I).toNat, none⟩ (.int .i64 A1)).setCell ⟨G, (J).toNat, none⟩ (.int .i64 A0)) = w6 at *
  clear hS5 hS4 hcP hfP hcI5 hfI5 hcI
  go_wp2_with fail
  go_ret
  exact ⟨_, rfl, hS6.own 0 rfl, hS6.b⟩
theorem backed_any (a : Option Addr) (cap : Nat) (p : List Int) (i : Nat) (w : World) (hS : Ints w a cap p) (hp : IsP p) (hi : i + 1 < p.length) (hl : p.length ≤ 1000) :
  Calls Tryz.prog 66 #[.slice a p.length cap, .int .i64 i] w fun r w' => ∃ v, r = .returned v ∧ OwnI w.heap.size w' v (bkP p i) ∧ Below w.heap.size w w' := by
 have hil := invL_len p
 have hip := invL_isP hp
 have hsl : (swpL (invL p) i).length = p.length := by rw [swp_length, hil]
 have hsp : IsP (swpL (invL p) i) := swp_isP hip (by rw [hil]; exact hi)
 have HE := hid (ended_any a cap p w hS hp hl)
 have HF := hid (fun (a : Option Addr) (c : Nat) w (h : Ints w a c (invL p)) => fronted_any a c (invL p) i w h (by rw [hil]; exact hi) (by rw [hil]; exact hl))
 have HG := hid (fun (a : Option Addr) (c : Nat) w (h : Ints w a c (swpL (invL p) i)) => ended_any a c (swpL (invL p) i) w h hsp (by rw [hsl]; exact hl))
 clear hil hip hsl hsp hp hS
 go_enter Tryz.func66, Tryz.ntmps66
 go_wp2_with fail
 refine HE.out.mono ?_
 rintro e w1 ⟨v1, rfl, ho, b1⟩
 obtain ⟨a1, c1, rfl, h1, _, _⟩ := ho.reps
 go_wp2_with fail
 refine (HF.out a1 c1 _ h1).mono ?_
 rintro e w2 ⟨v2, rfl, ho2, b2⟩
 obtain ⟨a2, c2, rfl, h2, _, _⟩ := ho2.reps
 go_wp2_with fail
 refine (HG.out a2 c2 _ h2).mono ?_
 rintro e w3 ⟨v3, rfl, ho3, b3⟩
 have hS3 := ((SL.nil w).mono b1).mono b2
 have hS4 := hS3.call (SL.ofOwn ho3 b3)
 rw [List.append_nil] at hS4
 go_wp2_with fail
 go_ret
 exact ⟨_, rfl, hS4.own 0 rfl, hS4.b⟩
/-- the flipped permutation while it is laid. -/
def flK (p : List Int) (k : Nat) : List Int := (List.range k).foldl (fun (o : List Int) (i : Nat) => o.set (p.length - 1 - i) ((p.length : Int) - 1 - atD 0 p (i : Int))) (List.replicate p.length 0)
theorem flK_succ (p : List Int) (k : Nat) : flK p (k + 1) = (flK p k).set (p.length - 1 - k) ((p.length : Int) - 1 - atD 0 p (k : Int)) := by unfold flK; rw [List.range_succ, List.foldl_append]; rfl
theorem flK_len (p : List Int) : ∀ k, (flK p k).length = p.length
 | 0 => by simp [flK]
 | k + 1 => by rw [flK_succ, List.length_set, flK_len p k]
theorem flK_at (p : List Int) : ∀ k, k ≤ p.length → ∀ i : Nat, i < k → (flK p k)[p.length - 1 - i]? = some ((p.length : Int) - 1 - atD 0 p (i : Int))
 | 0, _, i, h => by omega
 | k + 1, hk, i, h => by
   rw [flK_succ, List.getElem?_set]
   by_cases e : i = k
   · subst e
     rw [if_pos rfl, if_pos (by rw [flK_len]; omega)]
   · rw [if_neg (by omega)]
     exact flK_at p k (by omega) i (by omega)
theorem flK_full (p : List Int) : flK p p.length = flP p := by
 refine List.ext_getElem? fun j => ?_
 by_cases hj : j < p.length
 ·have h := flK_at p p.length (Nat.le_refl _) (p.length - 1 - j) (by omega)
  rw [show p.length - 1 - (p.length - 1 - j) = j by omega] at h
  rw [h]
  unfold flP
  rw [List.getElem?_map, List.getElem?_range hj]
  simp only [Option.map_some]
  congr 3
  omega
 ·rw [List.getElem?_eq_none (by rw [flK_len]; omega), List.getElem?_eq_none (by unfold flP; simp; omega)]
theorem flipped_any (a : Option Addr) (cap : Nat) (p : List Int) (w : World) (hS : Ints w a cap p) (hp : IsP p) (hl : p.length ≤ 1000) :
  Calls Tryz.prog 65 #[.slice a p.length cap] w fun r w' => ∃ v, r = .returned v ∧ OwnI w.heap.size w' v (flP p) ∧ Below w.heap.size w w' := by
 have hcap := hS.le
 have hmx := hS.max
 have hS0 := SL.nil w
 have HL := hid hS
 have hrg := hid (fun (k : Nat) (h : k < p.length) => hp.rng k (by omega) (by omega))
 have hinv : Hid (flK p 0 = List.replicate p.length 0) := hid (by simp [flK])
 clear hS hp
 go_enter Tryz.func65, Tryz.ntmps65
 go_wp2_with ((with_reducible refine wpList_makeL (c := cInt) (p.length) (0) E_smp cInt1 wU wU (by omega) (by omega) (hS0) ?_); intro ad w1 hS1)
 rw [← hinv.out] at hS1
 go_loopw [13, 5, 6] (fun iv _ _ wr => ∃ k : Nat, k ≤ p.length ∧ iv = .int .i64 k ∧ SL w.heap.size w wr [pOwn cInt 1 3 (.slice ad p.length p.length) (flK p k)]) (fun iv _ _ _ => p.length - (intOf iv).toNat)
 case atStart => exact ⟨0, by omega, rfl, hS1⟩
 case round =>
  clear hS1
  obtain ⟨k, hk, rfl, hSr⟩ := hrel
  have hLr := HL.out.below hSr.b
  by_cases hlt : k < p.length
  ·obtain ⟨h0, h1⟩ := hrg.out k hlt
   have hsc := flK_succ p k
   have hkl := flK_len p k
   obtain ⟨X, hX⟩ : ∃ X, X = atD 0 p k := ⟨_, rfl⟩
   rw [← hX] at h0 h1 hsc
   obtain ⟨R, hR⟩ : ∃ R, R = flK p k := ⟨_, rfl⟩
   rw [← hR] at hSr hkl hsc
   obtain ⟨N1, hN1⟩ : ∃ N : Int, N = (p.length : Int) - 1 := ⟨_, rfl⟩
   obtain ⟨Y, hY⟩ : ∃ N : Int, N = (p.length : Int) - 1 - X := ⟨_, rfl⟩
   obtain ⟨Z, hZ⟩ : ∃ N : Int, N = (p.length : Int) - 1 - k := ⟨_, rfl⟩
   have hw1 : IntKind.i64.wrap ((p.length : Int) - 1) = N1 := by rw [hN1]; exact IntWalk.i64_in _ (by omega)
   have hw2 : IntKind.i64.wrap (N1 - X) = Y := by rw [hN1, hY]; exact IntWalk.i64_in _ (by omega)
   have hw3 : IntKind.i64.wrap (N1 - (k : Int)) = Z := by rw [hN1, hZ]; exact IntWalk.i64_in _ (by omega)
   rw [← hY, show p.length - 1 - k = Z.toNat by omega] at hsc
   have HX := hid hX; have HSC := hid hsc
   have hZ0 : 0 ≤ Z := by omega
   have hZR : Z < (R.length : Int) := by omega
   clear hX hsc hR hkl hN1 hY hZ
   go_wp2_with (first | ((with_reducible refine wpList_idx _ 0 E_smp F_int cInt1 wU wU (hLr) oD oD (fun _ => wU) (fun _ => ?_)); rw [← HX.out]) | ((with_reducible refine wpList_storeL (u := Y) 0 E_smp cInt1 (sto_int) wU wU (hSr) wU (by first | omega | (simp; done) | (simp; omega)) (by first | omega | (simp; done) | (simp; omega)) (fun _ => wU) (fun _ => wU) ?_); intro _ w4 hS4))
   exact ⟨⟨k + 1, by omega, by go_num, by rw [HSC.out]; exact hS4⟩, by simp [intOf]; omega⟩
  ·have hkk : k = p.length := by omega
   rw [hkk, flK_full] at hSr
   have hkn : ¬ ((k : Int) < (p.length : Int)) := by omega
   clear hkk hlt hk
   go_wp2_with fail
   go_ret
   exact ⟨_, rfl, hSr.own 0 rfl, hSr.b⟩
end Go.Proofs.YtdeoogbiipodmaaGreat

namespace Go.Proofs.YtdeoogbiipodmaaGreat
open Go.RowKit
set_option maxHeartbeats 8000000
set_option maxRecDepth 100000
/-- a list that is turned round, up to its k outer places. -/
def RevI (row : List Int) (n k : Nat) (R : List Int) : Prop := R.length = n ∧ ∀ x : Nat, x < n → atD 0 R x = if x < k ∨ n - k ≤ x then atD 0 row ((n - 1 - x : Nat) : Int) else atD 0 row x
theorem revI_zero {row : List Int} {n : Nat} (h : row.length = n) : RevI row n 0 row := ⟨h, fun x hx => by rw [if_neg (by omega)]⟩
theorem atN_set {l : List Int} {i x : Nat} {v : Int} (hi : i < l.length) : atD 0 (l.set i v) (x : Int) = if x = i then v else atD 0 l x := by
 have := atD_set (l := l) (i := (i : Int)) (j := (x : Int)) (x := v) (by omega) (by omega) (by omega)
 rw [show ((i : Int)).toNat = i by omega] at this
 rw [this]
 by_cases e : x = i
 ·rw [if_pos (by omega), if_pos e]
 ·rw [if_neg (by omega), if_neg e]
theorem revI_step {row R : List Int} {n k : Nat} (h : RevI row n k R) (hk : k < n - 1 - k) : RevI row n (k + 1) ((R.set k (atD 0 R ((n - 1 - k : Nat) : Int))).set (n - 1 - k) (atD 0 R (k : Int))) := by
 obtain ⟨hl, hx⟩ := h
 refine ⟨by simp [hl], fun x hxn => ?_⟩
 rw [atN_set (by rw [List.length_set]; omega), atN_set (by omega)]
 have h1 := hx (n - 1 - k) (by omega)
 have h2 := hx k (by omega)
 rw [if_neg (by omega)] at h1 h2
 by_cases e1 : x = n - 1 - k
 ·rw [if_pos e1, if_pos (by omega), h2, e1]
  congr 1
  omega
 ·rw [if_neg e1]
  by_cases e2 : x = k
  ·rw [if_pos e2, if_pos (by omega), h1, e2]
  ·rw [if_neg e2, hx x hxn]
   by_cases e3 : x < k ∨ n - k ≤ x
   ·rw [if_pos e3, if_pos (by omega)]
   ·rw [if_neg e3, if_neg (by omega)]
theorem revI_end {row R : List Int} {n k : Nat} (hr : row.length = n) (h : RevI row n k R) (hk : ¬ k < n - 1 - k) (hkn : k ≤ n) : R = row.reverse := by
 obtain ⟨hl, hx⟩ := h
 refine ext_atD (by rw [List.length_reverse, hl, hr]) fun j j0 j1 => ?_
 obtain ⟨x, rfl⟩ : ∃ x : Nat, j = x := ⟨j.toNat, by omega⟩
 have hxn : x < n := by omega
 rw [hx x hxn]
 have e : atD 0 row.reverse (x : Int) = atD 0 row ((n - 1 - x : Nat) : Int) := by
  unfold atD
  rw [List.getD_eq_getElem?_getD, List.getD_eq_getElem?_getD, Int.toNat_natCast, Int.toNat_natCast, List.getElem?_reverse (by omega), hr]
 rw [e]
 split
 ·rfl
 ·rw [show n - 1 - x = x by omega]
theorem ReverseS_any {B : Nat} {w0 w : World} {G n cp : Nat} {row0 : List Int} (hS : SL B w0 w [pOwn cInt 1 3 (.slice (some ⟨G, 0, none⟩) n cp) row0]) (hn : row0.length = n) (hn2 : n ≤ 1000) :
  Calls Tryz.prog 72 #[.slice (some ⟨G, 0, none⟩) n cp] w fun r w' => (∃ v, r = .returned v) ∧ SL B w0 w' [pOwn cInt 1 3 (.slice (some ⟨G, 0, none⟩) n cp) row0.reverse] := by
 have hcap := (hS.rd 0 rfl).le
 have hmx := (hS.rd 0 rfl).max
 rw [hn] at hcap
 obtain ⟨M1, hM1⟩ : ∃ M1 : Int, M1 = (n : Int) - 1 := ⟨_, rfl⟩
 have hw1 : IntKind.i64.wrap ((n : Int) - 1) = M1 := by rw [hM1]; exact IntWalk.i64_in _ (by omega)
 have h0 := revI_zero hn
 have HN := hid hn; have HM := hid hM1
 clear hn hM1
 go_enter Tryz.func72, Tryz.ntmps72
 go_wp2_with fail
 go_loopw [2, 3] (fun iv jv wr => ∃ (k : Nat) (R : List Int) (I J : Int), iv = .int .i64 I ∧ jv = .int .i64 J ∧ I = k ∧ J = M1 - k ∧ k ≤ n ∧ RevI row0 n k R ∧ SL B w0 wr [pOwn cInt 1 3 (.slice (some ⟨G, 0, none⟩) n cp) R]) (fun iv jv _ => (n + 1 - (intOf iv).toNat))
 case atStart => exact ⟨0, row0, 0, M1, rfl, rfl, rfl, by omega, by omega, h0, hS⟩
 case round =>
  clear hS h0 hw1
  obtain ⟨k, row, I, J, rfl, rfl, hI, hJ, hkn, hrev, hSr⟩ := hrel
  have hM := HM.out
  by_cases hlt : I < J
  ·have hk : k < n - 1 - k := by omega
   have hrl : row.length = n := hrev.1
   have hstp := revI_step hrev hk
   have hI0 : 0 ≤ I := by omega
   have hJ0 : 0 ≤ J := by omega
   have hI1 : I < (n : Int) := by omega
   have hJ1 : J < (n : Int) := by omega
   have hI2 : I < (row.length : Int) := by omega
   have hJ2 : J < (row.length : Int) := by omega
   obtain ⟨A0, hA0⟩ : ∃ A, A = atD 0 row I := ⟨_, rfl⟩
   obtain ⟨A1, hA1⟩ : ∃ A, A = atD 0 row J := ⟨_, rfl⟩
   have HA0 : Hid (row[(I).toNat]?.map cInt = some (.int .i64 A0)) := hid (by rw [hA0]; exact get_mapI hI0 hI2)
   have HA1 : Hid (row[(J).toNat]?.map cInt = some (.int .i64 A1)) := hid (by rw [hA1]; exact get_mapI hJ0 hJ2)
   have HI5 : Hid ((row.set (I).toNat A1)[(J).toNat]?.map cInt = some (.int .i64 A1)) := hid (by rw [List.getElem?_set_ne (by omega)]; rw [hA1]; exact get_mapI hJ0 hJ2)
   have HSTP : Hid (RevI row0 n (k + 1) ((row.set I.toNat A1).set J.toNat A0)) := hid (by
    rw [show I.toNat = k by omega, show J.toNat = n - 1 - k by omega, hA0, hA1, hI, show J = ((n - 1 - k : Nat) : Int) by omega]
    exact hstp)
   obtain ⟨Ia, hIa⟩ : ∃ Ia : Int, Ia = I + 1 := ⟨_, rfl⟩
   obtain ⟨Ja, hJa⟩ : ∃ Ja : Int, Ja = J - 1 := ⟨_, rfl⟩
   have hw2 : IntKind.i64.wrap (I + 1) = Ia := by rw [hIa]; exact IntWalk.i64_in _ (by omega)
   have hw3 : IntKind.i64.wrap (J - 1) = Ja := by rw [hJa]; exact IntWalk.i64_in _ (by omega)
   have HI1 : Hid (Ia = ((k + 1 : Nat) : Int)) := hid (by omega)
   have HJ1 : Hid (Ja = M1 - ((k + 1 : Nat) : Int)) := hid (by omega)
   have HK1 : Hid (k + 1 ≤ n) := hid (by omega)
   have HMS : Hid (n + 1 - Ia.toNat < n + 1 - I.toNat) := hid (by omega)
   have dlt : decide (I < J) = true := decide_eq_true hlt
   clear hA0 hA1 hI hJ hM hrl hstp hrev hIa hJa hkn hk hlt
   go_wp2_with fail
   refine wp_regionK (C := (fun V => Below B w0 V)) [0, 1, 2, 3, 4, 5, 6, 8, 9, 10] [_, _, _, _, _, _, _, _, _, _] 6 (by simp only [List.map_cons, List.map_nil, List.getElem?_toArray]; rfl) rfl kR kR kR (hSr.b.drew) ?_
   refine ⟨.slice (some ⟨G, 0, none⟩) n cp, yieldsK_val wU (fun w' => by first | (go_simp; done) | (go_simp; rfl)), ?_⟩
   go_frame
   refine ⟨.int .i64 I, yieldsK_val wU (fun w' => by first | (go_simp; done) | (go_simp; rfl)), ?_⟩
   go_frame
   refine ⟨.slice (some ⟨G, 0, none⟩) n cp, yieldsK_val wU (fun w' => by first | (go_simp; done) | (go_simp; rfl)), ?_⟩
   go_frame
   refine ⟨.int .i64 J, yieldsK_val wU (fun w' => by first | (go_simp; done) | (go_simp; rfl)), ?_⟩
   go_frame
   refine ⟨.slice (some ⟨G, 0, none⟩) n cp, yieldsK_val wU (fun w' => by first | (go_simp; done) | (go_simp; rfl)), ?_⟩
   go_frame
   refine ⟨.int .i64 J, yieldsK_val wU (fun w' => by first | (go_simp; done) | (go_simp; rfl)), ?_⟩
   go_frame
   refine ⟨.pointer (some ⟨G, (J).toNat, none⟩), yieldsK_val wU (fun w' => by first | (go_simp; done) | (go_simp; rfl)), ?_⟩
   go_frame
   refine ⟨.slice (some ⟨G, 0, none⟩) n cp, yieldsK_val wU (fun w' => by first | (go_simp; done) | (go_simp; rfl)), ?_⟩
   go_frame
   refine ⟨.int .i64 I, yieldsK_val wU (fun w' => by first | (go_simp; done) | (go_simp; rfl)), ?_⟩
   go_frame
   refine ⟨.pointer (some ⟨G, (I).toNat, none⟩), yieldsK_val wU (fun w' => by first | (go_simp; done) | (go_simp; rfl)), ?_⟩
   go_frame
   unfold wpPureK
   have hVd : ({ wr with drawn := wr.drawn + 1 } : World) = wr.drew := rfl
   rw [hVd]
   clear hVd
   obtain ⟨W4, hW4⟩ : ∃ W4, W4 = wr.drew := ⟨_, rfl⟩
   have hS4 : SL B w0 W4 [pOwn cInt 1 3 (.slice (some ⟨G, 0, none⟩) n cp) row] := by rw [hW4]; exact hSr.drew
   rw [← hW4]
   clear hW4 hSr
   obtain ⟨g0, eg0, -, hcI, -, -⟩ := hS4.setOwn cInt1 0 rfl (J) hJ0 hJ2 0
   cases eg0
   obtain ⟨g1, eg1, -, hcP, hfP, hS5⟩ := hS4.setOwn cInt1 0 rfl (I) hI0 hI2 A1
   cases eg1
   obtain ⟨g2, eg2, -, hcI5, hfI5, hS6⟩ := hS5.setOwn cInt1 0 rfl (J) hJ0 (by rw [List.length_set]; exact hJ2) A0
   cases eg2
   rw [HA1.out] at hcI
   rw [HA0.out] at hcP
   rw [HI5.out] at hcI5
   replace hS6 : SL B w0 ((W4.setCell ⟨G, (I).toNat, none⟩ (.int .i64 A1)).setCell ⟨G, (J).toNat, none⟩ (.int .i64 A0)) [pOwn cInt 1 3 (.slice (some ⟨G, 0, none⟩) n cp) ((row.set (I).toNat A1).set (J).toNat A0)] := hS6
   refine wpAnyC_on [7, 11] kR (by simp) ?_
   simp only [List.forall_mem_cons, List.not_mem_nil, false_implies, implies_true, and_true]
   refine ⟨?_, ?_⟩
   ·as_aux_lemma =>
    refine wpOp_value (v := .int .i64 A1) (w' := W4) (by rw [List.getElem?_toArray]; rfl) wU (by first | (go_simp; done) | (go_simp; rfl) | (simp [execOp, Act.eval, Result.andThen]; done)) ?_
    refine ⟨hS4.b, ?_⟩
    go_frame
    refine wpAnyC_on [11] kR (by simp) ?_
    simp only [List.forall_mem_cons, List.not_mem_nil, false_implies, implies_true, and_true]
    refine wpOp_value (v := .int .i64 A0) (w' := W4) (by rw [List.getElem?_toArray]; rfl) wU (by first | (go_simp; done) | (go_simp; rfl) | (simp [execOp, Act.eval, Result.andThen]; done)) ?_
    refine ⟨hS4.b, ?_⟩
    go_frame
    refine wpAnyC_on [12] kR (by simp) ?_
    simp only [List.forall_mem_cons, List.not_mem_nil, false_implies, implies_true, and_true]
    refine wpOp_value (v := .pointer (some ⟨G, (I).toNat, none⟩)) (w' := W4) (by rw [List.getElem?_toArray]; rfl) wU (by first | (go_simp; done) | (go_simp; rfl) | (simp [execOp, Act.eval, Result.andThen]; done)) ?_
    refine ⟨hS4.b, ?_⟩
    go_frame
    refine wpAnyC_on [13] kR (by simp) ?_
    simp only [List.forall_mem_cons, List.not_mem_nil, false_implies, implies_true, and_true]
    refine wpOp_of_list (by rw [List.getElem?_toArray]; rfl) ?_
    refine wpList_stoAt (sto_int A1 _ _) wU wU hcP hfP ?_
    refine ⟨hS5.b, ?_⟩
    go_frame
    refine wpAnyC_on [14] kR (by simp) ?_
    simp only [List.forall_mem_cons, List.not_mem_nil, false_implies, implies_true, and_true]
    refine wpOp_value (v := .pointer (some ⟨G, (J).toNat, none⟩)) (w' := (W4.setCell ⟨G, (I).toNat, none⟩ (.int .i64 A1))) (by rw [List.getElem?_toArray]; rfl) wU (by first | (go_simp; done) | (go_simp; rfl) | (simp [execOp, Act.eval, Result.andThen]; done)) ?_
    refine ⟨hS5.b, ?_⟩
    go_frame
    refine wpAnyC_on [15] kR (by simp) ?_
    simp only [List.forall_mem_cons, List.not_mem_nil, false_implies, implies_true, and_true]
    refine wpOp_of_list (by rw [List.getElem?_toArray]; rfl) ?_
    refine wpList_stoAt (sto_int A0 _ _) wU wU hcI5 hfI5 ?_
    refine ⟨hS6.b, ?_⟩
    go_frame
    refine wpAnyC_rest [] [] rfl rfl kR kR kR hS6.b ?_
    unfold wpPure
    refine of_wpList_nil (P := Tryz.prog) (ops := #[]) ?_
    show wpList _ _ _ _ _ ((W4.setCell ⟨G, (I).toNat, none⟩ (.int .i64 A1)).setCell ⟨G, (J).toNat, none⟩ (.int .i64 A0))
    generalize ((W4.setCell ⟨G, (I).toNat, none⟩ (.int .i64 A1)).setCell ⟨G, (J).toNat, none⟩ (.int .i64 A0)) = w6 at *
    clear hS5 hS4 hcP hfP hcI5 hfI5 hcI
    go_wp2_with fail
    exact ⟨⟨k + 1, _, Ia, Ja, rfl, rfl, HI1.out, HJ1.out, HK1.out, HSTP.out, hS6⟩, by simp only [intOf]; exact HMS.out⟩
   ·as_aux_lemma =>
    refine wpOp_value (v := .int .i64 A0) (w' := W4) (by rw [List.getElem?_toArray]; rfl) wU (by first | (go_simp; done) | (go_simp; rfl) | (simp [execOp, Act.eval, Result.andThen]; done)) ?_
    refine ⟨hS4.b, ?_⟩
    go_frame
    refine wpAnyC_on [7] kR (by simp) ?_
    simp only [List.forall_mem_cons, List.not_mem_nil, false_implies, implies_true, and_true]
    refine wpOp_value (v := .int .i64 A1) (w' := W4) (by rw [List.getElem?_toArray]; rfl) wU (by first | (go_simp; done) | (go_simp; rfl) | (simp [execOp, Act.eval, Result.andThen]; done)) ?_
    refine ⟨hS4.b, ?_⟩
    go_frame
    refine wpAnyC_on [12] kR (by simp) ?_
    simp only [List.forall_mem_cons, List.not_mem_nil, false_implies, implies_true, and_true]
    refine wpOp_value (v := .pointer (some ⟨G, (I).toNat, none⟩)) (w' := W4) (by rw [List.getElem?_toArray]; rfl) wU (by first | (go_simp; done) | (go_simp; rfl) | (simp [execOp, Act.eval, Result.andThen]; done)) ?_
    refine ⟨hS4.b, ?_⟩
    go_frame
    refine wpAnyC_on [13] kR (by simp) ?_
    simp only [List.forall_mem_cons, List.not_mem_nil, false_implies, implies_true, and_true]
    refine wpOp_of_list (by rw [List.getElem?_toArray]; rfl) ?_
    refine wpList_stoAt (sto_int A1 _ _) wU wU hcP hfP ?_
    refine ⟨hS5.b, ?_⟩
    go_frame
    refine wpAnyC_on [14] kR (by simp) ?_
    simp only [List.forall_mem_cons, List.not_mem_nil, false_implies, implies_true, and_true]
    refine wpOp_value (v := .pointer (some ⟨G, (J).toNat, none⟩)) (w' := (W4.setCell ⟨G, (I).toNat, none⟩ (.int .i64 A1))) (by rw [List.getElem?_toArray]; rfl) wU (by first | (go_simp; done) | (go_simp; rfl) | (simp [execOp, Act.eval, Result.andThen]; done)) ?_
    refine ⟨hS5.b, ?_⟩
    go_frame
    refine wpAnyC_on [15] kR (by simp) ?_
    simp only [List.forall_mem_cons, List.not_mem_nil, false_implies, implies_true, and_true]
    refine wpOp_of_list (by rw [List.getElem?_toArray]; rfl) ?_
    refine wpList_stoAt (sto_int A0 _ _) wU wU hcI5 hfI5 ?_
    refine ⟨hS6.b, ?_⟩
    go_frame
    refine wpAnyC_rest [] [] rfl rfl kR kR kR hS6.b ?_
    unfold wpPure
    refine of_wpList_nil (P := Tryz.prog) (ops := #[]) ?_
    show wpList _ _ _ _ _ ((W4.setCell ⟨G, (I).toNat, none⟩ (.int .i64 A1)).setCell ⟨G, (J).toNat, none⟩ (.int .i64 A0))
    generalize ((W4.setCell ⟨G, (I).toNat, none⟩ (.int .i64 A1)).setCell ⟨G, (J).toNat, none⟩ (.int .i64 A0)) = w6 at *
    clear hS5 hS4 hcP hfP hcI5 hfI5 hcI
    go_wp2_with fail
    exact ⟨⟨k + 1, _, Ia, Ja, rfl, rfl, HI1.out, HJ1.out, HK1.out, HSTP.out, hS6⟩, by simp only [intOf]; exact HMS.out⟩
  ·have hend := revI_end HN.out hrev (by omega) hkn
   have dlt : decide (I < J) = false := decide_eq_false hlt
   rw [hend] at hSr
   clear hI hJ hM hrev hlt hend
   go_wp2_with fail
   go_end0
   exact ⟨⟨_, rfl⟩, hSr⟩
theorem rev_id (n : Nat) : (idL n).reverse = revP n := by
 refine ext_atD (by rw [List.length_reverse, idL_len, rev_len]) fun j j0 j1 => ?_
 rw [List.length_reverse, idL_len] at j1
 rw [rev_at j0 (by omega)]
 obtain ⟨x, rfl⟩ : ∃ x : Nat, j = x := ⟨j.toNat, by omega⟩
 have hx : x < n := by omega
 have e : atD 0 (idL n).reverse (x : Int) = atD 0 (idL n) ((n - 1 - x : Nat) : Int) := by
  unfold atD
  rw [List.getD_eq_getElem?_getD, List.getD_eq_getElem?_getD, Int.toNat_natCast, Int.toNat_natCast, List.getElem?_reverse (by rw [idL_len]; omega), idL_len]
 rw [e, idL_at (by omega) (by omega)]
 omega
theorem half_any (n : Nat) (w : World) (h0 : 1 ≤ n) (hn : n ≤ 1000) :
  Calls Tryz.prog 29 #[.int .i64 n] w fun r w' => ∃ v, r = .returned v ∧ OwnI w.heap.size w' v (revP n) ∧ Below w.heap.size w w' := by
 have HI := hid (bidentity_any n w hn)
 have hrv := rev_id n
 go_enter Tryz.func29, Tryz.ntmps29
 go_wp2_with fail
 refine HI.out.mono ?_
 rintro e w1 ⟨v1, rfl, ho, b1⟩
 have hS1 := SL.ofOwn ho b1
 obtain ⟨ag, cp, hv, -⟩ := hS1.slice 0 rfl
 subst hv
 rw [idL_len] at hS1 ⊢
 obtain ⟨G, hG, -⟩ := hS1.setOwn cInt1 0 rfl 0 (by omega) (by rw [idL_len]; omega) 0
 subst hG
 clear ho b1
 go_wp2_with fail
 refine (ReverseS_any hS1 (idL_len n) hn).mono ?_
 rintro e w2 ⟨⟨v2, rfl⟩, hS2⟩
 rw [hrv] at hS2
 clear hS1 hrv
 go_wp2_with fail
 go_ret
 exact ⟨_, rfl, hS2.own 0 rfl, hS2.b⟩
theorem Less_any (x y : Int) (w : World) : Calls Tryz.prog 106 #[.int .i64 x, .int .i64 y] w fun r w' => r = .returned (.bool (decide (x < y))) ∧ w = w' := by
 have HN := hid (fun (x : Int) (w : World) => (show Calls Tryz.prog 119 #[.int .i64 x] w fun r w' => r = .returned (.bool false) ∧ w = w' from by
  have d : (x != x) = false := by simp
  go_enter Tryz.func119, Tryz.ntmps119
  go_wp2
  go_ret
  exact ⟨rfl, rfl⟩))
 go_enter Tryz.func106, Tryz.ntmps106
 go_wp2_with fail
 refine (HN.out _ _).mono ?_
 rintro e w' ⟨rfl, rfl⟩
 go_wp2_with fail
 go_ret
 exact ⟨rfl, rfl⟩
theorem sorted_any (a : Option Addr) (cap n : Nat) (p : List Int) (w : World) (hS : Ints w a cap p) (hp : VP n p) (hl : n ≤ 1000) :
  Calls Tryz.prog 95 #[.slice a n cap] w fun r w' => r = .returned (.bool (isE n p)) ∧ Below w.heap.size w w' := by
 have hcap := hS.le
 have hmx := hS.max
 have hpl := hp.2
 obtain ⟨M1, hM1⟩ : ∃ M1 : Int, M1 = (n : Int) - 1 := ⟨_, rfl⟩
 have hw1 : IntKind.i64.wrap ((n : Int) - 1) = M1 := by rw [hM1]; exact IntWalk.i64_in _ (by omega)
 obtain ⟨E, hE⟩ : ∃ E, E = isE n p := ⟨_, rfl⟩
 rw [← hE]
 have HT : Hid (∀ i : Nat, (∀ j : Nat, j + 1 < n → ¬ atD 0 p ((j : Int) + 1) < atD 0 p (j : Int)) → E = true) := hid fun _ h => by rw [hE]; unfold isE; exact decide_eq_true (sorted_id hp h)
 have HF : Hid (∀ j : Nat, j + 1 < n → atD 0 p ((j : Int) + 1) < atD 0 p (j : Int) → E = false) := hid fun j hj h => by
  rw [hE]
  unfold isE
  refine decide_eq_false fun e => ?_
  rw [e] at h
  exact id_sorted hj h
 have HPL := hid hpl; have HM := hid hM1
 clear hE hp hM1 hpl
 go_enter Tryz.func95, Tryz.ntmps95
 go_wp2_with fail
 go_loopw [3] (fun iv wr => ∃ (I : Int), iv = .int .i64 I ∧ -1 ≤ I ∧ I ≤ M1 ∧ (∀ j : Nat, I ≤ (j : Int) → j + 1 < n → ¬ atD 0 p ((j : Int) + 1) < atD 0 p (j : Int)) ∧ Below w.heap.size w wr) (fun iv _ => (intOf iv).toNat)
 case atStart => exact ⟨M1, rfl, by have := HM.out; omega, by omega, fun j h h2 => by have := HM.out; omega, Below.refl _ _⟩
 case round =>
  clear hw1
  obtain ⟨I, rfl, hI0, hI1, hall, hbr⟩ := hrel
  have hM := HM.out
  by_cases hpos : 0 < I
  ·obtain ⟨k, hk⟩ : ∃ k : Nat, I = (k : Int) + 1 := ⟨(I - 1).toNat, by omega⟩
   have hkn : k + 1 < n := by omega
   obtain ⟨K, hK⟩ : ∃ K : Int, K = I - 1 := ⟨_, rfl⟩
   have hw2 : IntKind.i64.wrap (I - 1) = K := by rw [hK]; exact IntWalk.i64_in _ (by omega)
   obtain ⟨X, hX⟩ : ∃ X, X = atD 0 p I := ⟨_, rfl⟩
   obtain ⟨Y, hY⟩ : ∃ Y, Y = atD 0 p K := ⟨_, rfl⟩
   have hK0 : 0 ≤ K := by omega
   have hKp : K < (p.length : Int) := by have := HPL.out; omega
   have hIp : I < (p.length : Int) := by have := HPL.out; omega
   have hI00 : 0 ≤ I := by omega
   have HLS : Hid (∀ w', Calls Tryz.prog 106 #[.int .i64 X, .int .i64 Y] w' fun r w'' => r = .returned (.bool (decide (X < Y))) ∧ Below w'.heap.size w' w'') := hid fun w' => (Less_any X Y w').mono fun e w'' h => ⟨h.1, by rw [← h.2]; exact Below.refl _ _⟩
   have hSr := hS.below hbr
   have dpos : decide (0 < I) = true := decide_eq_true hpos
   have hXY : X = atD 0 p ((k : Int) + 1) ∧ Y = atD 0 p (k : Int) := ⟨by rw [hX, hk], by rw [hY, hK, hk, show (k : Int) + 1 - 1 = k by omega]⟩
   have HX := hid hX; have HY := hid hY
   by_cases hlt : X < Y
   ·have HE : Hid (E = false) := hid (HF.out k hkn (by rw [← hXY.1, ← hXY.2]; exact hlt))
    have dlt : decide (X < Y) = true := decide_eq_true hlt
    rw [dlt] at HLS
    clear hX hY hXY hk hK hM hall hlt dlt hpos
    go_wp2_with fail
    refine wp_region_q kR kR ?_
    repeat (first | (((with_reducible refine wpB_idx2 0 E_smp F_int cInt1 wU (HPL.out) wU (hSr) oD oD (fun _ => wU) (fun _ => ?_)); (try simp only [Act.put, pA, pB, pC]); (try simp only [cInt])); first | rw [← HX.out] | rw [← HY.out]) | ((refine wpB_call (.bool true) wU (fun w' => ?_) (fun w' hw' => HLS.out w') ?_); (focus (go_simp; done)); (try simp only [Act.put, pA, pB, pC])) |  ((with_reducible refine wpB_load (by first | exact F_int | fail) wU wU (by assumption) wU ?_); (try simp only [Act.put, pA, pB, pC])) | ((with_reducible refine wpB_loadS (n := 2) (us := #[_, _]) (by fail) kR wU wU (by assumption) wU wU ?_); (try simp only [Act.put, pA, pB, pC])) | ((with_reducible refine wpB_loadS (n := 4) (us := #[_, _, _, _]) (by fail) kR wU wU (by assumption) wU wU ?_); (try simp only [Act.put, pA, pB, pC])) | ((refine wpQ_oneG ?_ wU (fun w' => ?_) ?_); rotate_left; (go_simp; rfl); (try simp only [Act.put, pA, pB, pC])))
    refine wpQuiet_nil ?_
    intro w1 hb1
    go_wp2_with fail
    go_ret
    exact ⟨by rw [HE.out]; rfl, bnext hbr hb1⟩
   ·have dlt : decide (X < Y) = false := decide_eq_false hlt
    rw [dlt] at HLS
    have HALL : Hid (∀ j : Nat, K ≤ (j : Int) → j + 1 < n → ¬ atD 0 p ((j : Int) + 1) < atD 0 p (j : Int)) := hid fun j h h2 => by
     by_cases e : (j : Int) = K
     ·have e2 : (j : Int) = k := by omega
      rw [e2, ← hXY.1, ← hXY.2]
      exact hlt
     ·exact hall j (by omega) h2
    have HB : Hid (-1 ≤ K ∧ K ≤ M1 ∧ K.toNat < I.toNat) := hid ⟨by omega, by omega, by omega⟩
    clear hX hY hXY hk hK hM hall hlt dlt hpos
    go_wp2_with fail
    refine wp_region_q kR kR ?_
    repeat (first | (((with_reducible refine wpB_idx2 0 E_smp F_int cInt1 wU (HPL.out) wU (hSr) oD oD (fun _ => wU) (fun _ => ?_)); (try simp only [Act.put, pA, pB, pC]); (try simp only [cInt])); first | rw [← HX.out] | rw [← HY.out]) | ((refine wpB_call (.bool false) wU (fun w' => ?_) (fun w' hw' => HLS.out w') ?_); (focus (go_simp; done)); (try simp only [Act.put, pA, pB, pC])) |  ((with_reducible refine wpB_load (by first | exact F_int | fail) wU wU (by assumption) wU ?_); (try simp only [Act.put, pA, pB, pC])) | ((with_reducible refine wpB_loadS (n := 2) (us := #[_, _]) (by fail) kR wU wU (by assumption) wU wU ?_); (try simp only [Act.put, pA, pB, pC])) | ((with_reducible refine wpB_loadS (n := 4) (us := #[_, _, _, _]) (by fail) kR wU wU (by assumption) wU wU ?_); (try simp only [Act.put, pA, pB, pC])) | ((refine wpQ_oneG ?_ wU (fun w' => ?_) ?_); rotate_left; (go_simp; rfl); (try simp only [Act.put, pA, pB, pC])))
    refine wpQuiet_nil ?_
    intro w1 hb1
    go_wp2_with fail
    exact ⟨⟨K, rfl, HB.out.1, HB.out.2.1, (by intro j h h2; have := HALL.out j h h2; omega), bnext hbr hb1⟩, by simp only [intOf]; exact HB.out.2.2⟩
  ·have HE : Hid (E = true) := hid (HT.out 0 (by intro j hj; have := hall j (by omega) hj; omega))
   have dpos : decide (0 < I) = false := decide_eq_false hpos
   clear hall hM hpos
   go_wp2_with fail
   go_ret
   exact ⟨by rw [HE.out]; rfl, hbr⟩
theorem plain_any (a : Option Addr) (cap n : Nat) (p : List Int) (w : World) (hS : Ints w a cap p) (hp : VP n p) (hl : n ≤ 1000) :
  Calls Tryz.prog 68 #[.slice a n cap] w fun r w' => r = .returned (.bool (isE n p)) ∧ Below w.heap.size w w' := by
 have HC := hid (sorted_any a cap n p w hS hp hl)
 clear hp
 go_enter Tryz.func68, Tryz.ntmps68
 go_wp2_with fail
 refine HC.out.mono ?_
 rintro e w1 ⟨rfl, b1⟩
 go_wp2_with fail
 go_ret
 exact ⟨rfl, b1⟩
end Go.Proofs.YtdeoogbiipodmaaGreat

namespace Go.Proofs.YtdeoogbiipodmaaGreat
open Go.RowKit
set_option maxHeartbeats 8000000
set_option maxRecDepth 100000
theorem equalS_any (a a2 : Option Addr) (cap cap2 n : Nat) (l m : List Int) (w : World) (hS : Ints w a cap l) (hM : Ints w a2 cap2 m) (hl : l.length = n) (hm : m.length = n) (hn : n ≤ 1000) :
  Calls Tryz.prog 69 #[.slice a n cap, .slice a2 n cap2] w fun r w' => r = .returned (.bool (decide (l = m))) ∧ Below w.heap.size w w' := by
 have hcap := hS.le
 have hmx := hS.max
 have hcap2 := hM.le
 have hmx2 := hM.max
 obtain ⟨E, hE⟩ : ∃ E, E = decide (l = m) := ⟨_, rfl⟩
 rw [← hE]
 have HT : Hid ((∀ j : Nat, j < n → atD 0 l j = atD 0 m j) → E = true) := hid fun h => by
  rw [hE]
  refine decide_eq_true (ext_atD (by omega) fun j j0 j1 => ?_)
  have := h j.toNat (by omega)
  rw [show ((j.toNat : Nat) : Int) = j by omega] at this
  exact this
 have HF : Hid (∀ j : Nat, j < n → atD 0 l j ≠ atD 0 m j → E = false) := hid fun j hj h => by
  rw [hE]
  exact decide_eq_false fun e => h (by rw [e])
 have HL := hid hl; have HM := hid hm
 have dn : ((n : Int) != (n : Int)) = false := by simp
 clear hE hl hm
 go_enter Tryz.func69, Tryz.ntmps69
 go_wp2_with fail
 clear dn
 go_loopw [13, 5] (fun iv _ wr => ∃ k : Nat, iv = .int .i64 k ∧ k ≤ n ∧ (∀ j : Nat, j < k → atD 0 l j = atD 0 m j) ∧ Below w.heap.size w wr) (fun iv _ _ => n - (intOf iv).toNat)
 case atStart => exact ⟨0, rfl, by omega, fun j h => by omega, Below.refl _ _⟩
 case round =>
  obtain ⟨k, rfl, hk, hall, hbr⟩ := hrel
  by_cases hlt : k < n
  ·obtain ⟨X, hX⟩ : ∃ X, X = atD 0 l k := ⟨_, rfl⟩
   obtain ⟨Y, hY⟩ : ∃ Y, Y = atD 0 m k := ⟨_, rfl⟩
   have hk1 : (k : Int) < (l.length : Int) := by have := HL.out; omega
   have hk2 : (k : Int) < (m.length : Int) := by have := HM.out; omega
   have hSr := hS.below hbr
   have hMr := hM.below hbr
   have HX := hid hX; have HY := hid hY
   by_cases e : X = Y
   ·have dXY : (X != Y) = false := by simp [e]
    have HALL : Hid (∀ j : Nat, j < k + 1 → atD 0 l j = atD 0 m j) := hid fun j h => by
     by_cases e2 : j = k
     ·rw [e2, ← hX, ← hY, e]
     ·exact hall j (by omega)
    clear hX hY hall e
    go_wp2_with fail
    refine wp_region_q kR kR ?_
    repeat (first | (((with_reducible refine wpB_idx2 0 E_smp F_int cInt1 wU (HL.out) wU (hSr) oD oD (fun _ => wU) (fun _ => ?_)); (try simp only [Act.put, pA, pB, pC]); (try simp only [cInt])); rw [← HX.out]) | (((with_reducible refine wpB_idx2 0 E_smp F_int cInt1 wU (HM.out) wU (hMr) oD oD (fun _ => wU) (fun _ => ?_)); (try simp only [Act.put, pA, pB, pC]); (try simp only [cInt])); rw [← HY.out]) | (((refine wpQ_oneG ?_ wU (fun w' => ?_) ?_); rotate_left; (go_simp; rfl); (try simp only [Act.put, pA, pB, pC])); rw [dXY]) | ((refine wpQ_oneG ?_ wU (fun w' => ?_) ?_); rotate_left; (go_simp; rfl); (try simp only [Act.put, pA, pB, pC])) |  ((with_reducible refine wpB_load (by first | exact F_int | fail) wU wU (by assumption) wU ?_); (try simp only [Act.put, pA, pB, pC])) | ((with_reducible refine wpB_loadS (n := 2) (us := #[_, _]) (by fail) kR wU wU (by assumption) wU wU ?_); (try simp only [Act.put, pA, pB, pC])) | ((with_reducible refine wpB_loadS (n := 4) (us := #[_, _, _, _]) (by fail) kR wU wU (by assumption) wU wU ?_); (try simp only [Act.put, pA, pB, pC])) | ((refine wpQ_oneG ?_ wU (fun w' => ?_) ?_); rotate_left; (go_simp; rfl); (try simp only [Act.put, pA, pB, pC])))
    refine wpQuiet_nil ?_
    intro w1 hb1
    go_wp2_with fail
    exact ⟨⟨k + 1, by go_num, by omega, HALL.out, bnext hbr hb1⟩, by simp [intOf]; omega⟩
   ·have dXY : (X != Y) = true := by simp [e]
    have HE : Hid (E = false) := hid (HF.out k hlt (by rw [← hX, ← hY]; exact e))
    clear hX hY hall e
    go_wp2_with fail
    refine wp_region_q kR kR ?_
    repeat (first | (((with_reducible refine wpB_idx2 0 E_smp F_int cInt1 wU (HL.out) wU (hSr) oD oD (fun _ => wU) (fun _ => ?_)); (try simp only [Act.put, pA, pB, pC]); (try simp only [cInt])); rw [← HX.out]) | (((with_reducible refine wpB_idx2 0 E_smp F_int cInt1 wU (HM.out) wU (hMr) oD oD (fun _ => wU) (fun _ => ?_)); (try simp only [Act.put, pA, pB, pC]); (try simp only [cInt])); rw [← HY.out]) | (((refine wpQ_oneG ?_ wU (fun w' => ?_) ?_); rotate_left; (go_simp; rfl); (try simp only [Act.put, pA, pB, pC])); rw [dXY]) | ((refine wpQ_oneG ?_ wU (fun w' => ?_) ?_); rotate_left; (go_simp; rfl); (try simp only [Act.put, pA, pB, pC])) |  ((with_reducible refine wpB_load (by first | exact F_int | fail) wU wU (by assumption) wU ?_); (try simp only [Act.put, pA, pB, pC])) | ((with_reducible refine wpB_loadS (n := 2) (us := #[_, _]) (by fail) kR wU wU (by assumption) wU wU ?_); (try simp only [Act.put, pA, pB, pC])) | ((with_reducible refine wpB_loadS (n := 4) (us := #[_, _, _, _]) (by fail) kR wU wU (by assumption) wU wU ?_); (try simp only [Act.put, pA, pB, pC])) | ((refine wpQ_oneG ?_ wU (fun w' => ?_) ?_); rotate_left; (go_simp; rfl); (try simp only [Act.put, pA, pB, pC])))
    refine wpQuiet_nil ?_
    intro w1 hb1
    go_wp2_with fail
    go_ret
    exact ⟨by rw [HE.out]; rfl, bnext hbr hb1⟩
  ·have HE : Hid (E = true) := hid (HT.out fun j hj => hall j (by omega))
   have hkn : ¬ ((k : Int) < (n : Int)) := by omega
   clear hall hlt hk
   go_wp2_with fail
   go_ret
   exact ⟨by rw [HE.out]; rfl, hbr⟩
theorem fol_at {n : Nat} {a b : List Int} {j : Nat} (hj : j < n - 1) (h : ∀ i, i < j → (bgP b i && !(edP a i)) = false) (h2 : (bgP b j && !(edP a j)) = true) : folP n a b = some j := by
 unfold folP
 rw [List.find?_eq_some_iff_getElem]
 refine ⟨h2, j, by simpa using hj, by simp, fun i hi => ?_⟩
 rw [List.getElem_range]
 rw [h i hi]
 rfl
theorem fol_no {n : Nat} {a b : List Int} (h : ∀ i, i < n - 1 → (bgP b i && !(edP a i)) = false) : folP n a b = none := by
 unfold folP
 rw [List.find?_eq_none]
 intro i hi
 rw [h i (List.mem_range.1 hi)]
 simp
def folV (n : Nat) (a b : List Int) : Value := .tuple #[.int .i64 (((folP n a b).getD 0 : Nat) : Int), .bool (folP n a b).isSome]
theorem follows_any (aa ab : Option Addr) (ca cb n : Nat) (a b : List Int) (w : World) (hA : Ints w aa ca a) (hB : Ints w ab cb b) (ha : VP n a) (hb : VP n b) (h1 : 1 ≤ n) (hn : n ≤ 1000) :
  Calls Tryz.prog 71 #[.slice aa n ca, .slice ab n cb] w fun r w' => r = .returned (folV n a b) ∧ Below w.heap.size w w' := by
 have hcap := hA.le
 have hmx := hA.max
 have hcap2 := hB.le
 have hmx2 := hB.max
 have CB := fun (i : Nat) (hi : i + 1 < n) w (h : Ints w ab cb b) => begins_any ab cb b i w h (by rw [hb.2]; exact hi) (by rw [hb.2]; exact hn)
 have CE := fun (i : Nat) (hi : i + 1 < n) w (h : Ints w aa ca a) => ends_any aa ca a i w h ha.1 (by rw [ha.2]; exact hi) (by rw [ha.2]; exact hn)
 rw [hb.2] at CB
 rw [ha.2] at CE
 rw [ha.2] at hcap
 rw [hb.2] at hcap2
 have HB := hid CB; have HE := hid CE
 obtain ⟨M1, hM1⟩ : ∃ M1 : Int, M1 = (n : Int) - 1 := ⟨_, rfl⟩
 have hw1 : IntKind.i64.wrap ((n : Int) - 1) = M1 := by rw [hM1]; exact IntWalk.i64_in _ (by omega)
 obtain ⟨V, hV⟩ : ∃ V, V = folV n a b := ⟨_, rfl⟩
 rw [← hV]
 have HN : Hid ((∀ i, i < n - 1 → (bgP b i && !(edP a i)) = false) → V = .tuple #[.int .i64 0, .bool false]) := hid fun h => by rw [hV]; unfold folV; rw [fol_no h]; rfl
 have HS : Hid (∀ j, j < n - 1 → (∀ i, i < j → (bgP b i && !(edP a i)) = false) → (bgP b j && !(edP a j)) = true → V = .tuple #[.int .i64 (j : Int), .bool true]) := hid fun j hj h h2 => by rw [hV]; unfold folV; rw [fol_at hj h h2]; rfl
 have HM := hid hM1
 clear CB CE hV hM1 ha hb
 go_enter Tryz.func71, Tryz.ntmps71
 go_wp2_with fail
 go_loopw [10, 6] (fun iv _ wr => ∃ k : Nat, iv = .int .i64 k ∧ (k : Int) ≤ M1 ∧ (∀ i, i < k → (bgP b i && !(edP a i)) = false) ∧ Below w.heap.size w wr) (fun iv _ _ => n - (intOf iv).toNat)
 case atStart => exact ⟨0, rfl, by have := HM.out; omega, fun j h => by omega, Below.refl _ _⟩
 case round =>
  clear hw1
  obtain ⟨k, rfl, hk, hall, hbr⟩ := hrel
  have hM := HM.out
  have hAr := hA.below hbr
  have hBr := hB.below hbr
  by_cases hlt : (k : Int) < M1
  ·have hkn : k + 1 < n := by omega
   have hkn2 : k < n - 1 := by omega
   have CB := HB.out k hkn
   have CE := HE.out k hkn
   have hS := HS.out k hkn2 hall
   have hnx : (bgP b k && !(edP a k)) = false → ∀ i, i < k + 1 → (bgP b i && !(edP a i)) = false := fun h i hi => by
    by_cases e : i = k
    ·rw [e]; exact h
    ·exact hall i (by omega)
   obtain ⟨X, hX⟩ : ∃ X, X = bgP b k := ⟨_, rfl⟩
   obtain ⟨Y, hY⟩ : ∃ Y, Y = edP a k := ⟨_, rfl⟩
   rw [← hX] at CB
   rw [← hY] at CE
   rw [← hX, ← hY] at hS hnx
   have HBB := hid CB; have HEE := hid CE; have HSS := hid hS; have HNX := hid hnx
   have HKM : Hid ((k : Int) + 1 ≤ M1) := hid (by omega)
   clear CB CE hS hnx hX hY hall hM
   cases X with
   | false =>
    go_wp2_with fail
    refine (HBB.out _ hBr).mono ?_
    rintro e w1 ⟨rfl, b1⟩
    go_wp2_with fail
    exact ⟨⟨k + 1, by go_num, by have := HKM.out; omega, HNX.out rfl, bnext hbr b1⟩, by simp [intOf]; omega⟩
   | true =>
    cases Y with
    | false =>
     go_wp2_with fail
     refine (HBB.out _ hBr).mono ?_
     rintro e w1 ⟨rfl, b1⟩
     go_wp2_with fail
     refine (HEE.out _ (hAr.below b1)).mono ?_
     rintro e w2 ⟨rfl, b2⟩
     go_wp2_with fail
     go_ret2
     exact ⟨by rw [HSS.out rfl]; rfl, bnext hbr (bnext b1 b2)⟩
    | true =>
     go_wp2_with fail
     refine (HBB.out _ hBr).mono ?_
     rintro e w1 ⟨rfl, b1⟩
     go_wp2_with fail
     refine (HEE.out _ (hAr.below b1)).mono ?_
     rintro e w2 ⟨rfl, b2⟩
     go_wp2_with fail
     exact ⟨⟨k + 1, by go_num, by have := HKM.out; omega, HNX.out rfl, bnext hbr (bnext b1 b2)⟩, by simp [intOf]; omega⟩
  ·have hV := HN.out fun i hi => hall i (by omega)
   have HV := hid hV
   clear hall hM hV
   go_wp2_with fail
   go_ret2
   exact ⟨by rw [HV.out]; rfl, hbr⟩
end Go.Proofs.YtdeoogbiipodmaaGreat

namespace Go.Proofs.YtdeoogbiipodmaaGreat
open Go.RowKit
set_option maxHeartbeats 2000000
set_option maxRecDepth 100000

abbrev mC (m : MacV) (ad : Option Addr) (cap : Nat) : Array Value := #[.bool m.ring, .int .i64 m.gears, .int .i64 m.turn, .slice ad m.sw.length cap]
abbrev mV (m : MacV) (ad : Option Addr) (cap : Nat) : Value := .agg #[.bool m.ring, .int .i64 m.gears, .int .i64 m.turn, .slice ad m.sw.length cap]
theorem A_mach : Aggr Tryz.prog 24 := ⟨_, Tryz.underlying24, rfl⟩
theorem F_boolM : Flat Tryz.prog 4 := ⟨_, Tryz.underlying4, rfl⟩
theorem F_sliceM : Flat Tryz.prog 22 := ⟨_, Tryz.underlying22, rfl⟩
theorem A_two : Aggr Tryz.prog 99 := ⟨_, Tryz.underlying99, rfl⟩

theorem mwhen_any (b : Bool) (e : Int) (w : World) :
  Calls Tryz.prog 53 #[.bool b, .int .i64 e] w fun r w' => r = .returned (.int .i64 (if b then e else 0)) ∧ w = w' := by
 cases b
 ·go_enter Tryz.func53, Tryz.ntmps53
  go_wp2
  go_ret
  exact ⟨rfl, rfl⟩
 ·go_enter Tryz.func53, Tryz.ntmps53
  go_wp2
  go_ret
  exact ⟨rfl, rfl⟩
theorem mfirst_any (a : Option Addr) (cap : Nat) (l : List Int) (w : World) (h : Ints w a cap l) :
  Calls Tryz.prog 51 #[.slice a l.length cap] w fun r w' => r = .returned (.int .i64 (firstE l)) ∧ w = w' := by
 have hcap := h.le
 have hm := h.max
 go_enter Tryz.func51, Tryz.ntmps51
 go_wp2
 go_loop [7] (fun i => ∃ k : Nat, k ≤ l.length ∧ i = .int .i64 k ∧ firstE (l.drop k) = firstE l) (fun i => l.length - (intOf i).toNat)
 case atStart => exact ⟨0, by omega, rfl, by simp⟩
 case round =>
  obtain ⟨k, hk, rfl, hf⟩ := hrel
  by_cases hlt : k < l.length
  ·have hs := firstE_drop l k hlt
   have HF := hid hf; clear hf
   have HS := hid hs; clear hs
   go_wp2_with (with_reducible refine wpList_idx _ 0 E_errs F_err cInt1 wU wU (h) oD oD (fun _ => wU) (fun _ => ?_))
   ·go_ret
    have h1 : (atD 0 l k != 0) = true := by assumption
    refine ⟨?_, rfl⟩
    have := HS.out; rw [HF.out, h1, if_pos rfl] at this; rw [this]; rfl
   ·go_round
    case rel =>
     have h1 : (atD 0 l k != 0) = false := by assumption
     refine ⟨k + 1, by omega, by go_num, ?_⟩
     have := HS.out; rw [HF.out, h1] at this; exact this.symm
    case measure => simp [intOf]; omega
  ·have : k = l.length := by omega
   subst this
   rw [firstE_end] at hf
   have HF := hid hf; clear hf
   go_wp2
   go_ret
   exact ⟨by rw [← HF.out]; rfl, rfl⟩
theorem btoi_any (b : Bool) (w : World) :
  Calls Tryz.prog 105 #[.bool b] w fun r w' => r = .returned (.int .i64 (if b then 1 else 0)) ∧ w = w' := by
 cases b
 ·go_enter Tryz.func105, Tryz.ntmps105
  go_wp2
  go_ret
  exact ⟨rfl, rfl⟩
 ·go_enter Tryz.func105, Tryz.ntmps105
  go_wp2
  go_ret
  exact ⟨rfl, rfl⟩
theorem forwards_any (m : MacV) (ad : Option Addr) (cap : Nat) (g : Int) (w : World) (h0 : 0 ≤ g) (h1 : g ≤ 1048576) :
  Calls Tryz.prog 56 #[mV m ad cap, .int .i64 g] w fun r w' => r = .returned (.bool (fwdM m g)) ∧ Below w.heap.size w w' := by
 obtain ⟨q, hq⟩ : ∃ q, q = g % 2 := ⟨_, rfl⟩
 have htm : g.tmod 2 = q := by rw [hq, Int.tmod_eq_emod_of_nonneg h0]
 have hf : fwdM m g = ((m.turn == 1) == (q == 0)) := by unfold fwdM; rw [hq]
 have hq2 : 0 ≤ q ∧ q < 2 := by omega
 have HF := hid hf
 clear hf hq
 go_enter Tryz.func56, Tryz.ntmps56
 go_wp2_with fail
 go_ret
 exact ⟨by rw [HF.out]; rfl, bal (Below.refl _ _) _⟩
theorem shared_any (m : MacV) (ad : Option Addr) (cap : Nat) (p : Int) (w : World) :
  Calls Tryz.prog 90 #[mV m ad cap, .int .i64 p] w fun r w' => r = .returned (.bool (sharedM m p)) ∧ Below w.heap.size w w' := by
 by_cases h0 : 0 ≤ p
 ·by_cases h1 : p < m.gears
  ·cases hr : m.ring
   ·have hs : sharedM m p = decide (0 < p) := by unfold sharedM; simp [h0, h1, hr]
    have HS := hid hs; clear hs
    go_enter Tryz.func90, Tryz.ntmps90
    go_wp2_with fail
    go_ret
    exact ⟨by rw [HS.out]; rfl, bal (Below.refl _ _) _⟩
   ·have hs : sharedM m p = true := by unfold sharedM; simp [h0, h1, hr]
    have HS := hid hs; clear hs
    go_enter Tryz.func90, Tryz.ntmps90
    go_wp2_with fail
    go_ret
    exact ⟨by rw [HS.out]; rfl, bal (Below.refl _ _) _⟩
  ·have hs : sharedM m p = false := by unfold sharedM; simp [h1]
   have HS := hid hs; clear hs
   go_enter Tryz.func90, Tryz.ntmps90
   go_wp2_with fail
   go_ret
   exact ⟨by rw [HS.out]; rfl, bal (Below.refl _ _) _⟩
 ·have hs : sharedM m p = false := by unfold sharedM; simp [h0]
  have HS := hid hs; clear hs
  go_enter Tryz.func90, Tryz.ntmps90
  go_wp2_with fail
  go_ret
  exact ⟨by rw [HS.out]; rfl, bal (Below.refl _ _) _⟩
theorem place_any (m : MacV) (ad : Option Addr) (cap : Nat) (s : Int) (w : World) (hg : m.gears ≤ 16) (h0 : 0 ≤ s) (h1 : s < 4 * m.gears) :
  Calls Tryz.prog 89 #[mV m ad cap, .int .i64 s] w fun r w' => r = .returned (.int .i64 (placeM m s)) ∧ Below w.heap.size w w' := by
 obtain ⟨g, hgq⟩ : ∃ g, g = s / 4 := ⟨_, rfl⟩
 obtain ⟨q, hq⟩ : ∃ q, q = s % 4 := ⟨_, rfl⟩
 have htd : s.tdiv 4 = g := by rw [hgq, Int.tdiv_eq_ediv_of_nonneg h0]
 have htm : s.tmod 4 = q := by rw [hq, Int.tmod_eq_emod_of_nonneg h0]
 have hp := place_prog h0 h1
 have hpl : placeM m s = if q = 0 then g else if q = 2 then (if m.ring = true ∧ g + 1 = m.gears then 0 else g + 1) else -1 := by unfold placeM; rw [hq, hgq]
 rw [← hgq] at hp
 have hq4 : q = 0 ∨ q = 1 ∨ q = 2 ∨ q = 3 := by omega
 have hg0 : 0 ≤ g ∧ g < m.gears := by omega
 rcases hq4 with rfl | rfl | rfl | rfl
 ·rw [if_pos rfl] at hpl
  have HP := hid hpl
  clear hpl hp hq hgq
  go_enter Tryz.func89, Tryz.ntmps89
  go_wp2_with fail
  go_ret
  exact ⟨by rw [HP.out]; rfl, bal (Below.refl _ _) _⟩
 ·rw [if_neg (by decide), if_neg (by decide)] at hpl
  have HP := hid hpl
  clear hpl hp hq hgq
  go_enter Tryz.func89, Tryz.ntmps89
  go_wp2_with fail
  go_ret
  exact ⟨by rw [HP.out]; rfl, bal (Below.refl _ _) _⟩
 ·rw [if_neg (by decide), if_pos rfl, ← hp] at hpl
  obtain ⟨P, hP⟩ : ∃ P, P = placeM m s := ⟨_, rfl⟩
  rw [← hP] at hpl ⊢
  have hPb : 0 ≤ P ∧ P ≤ 64 := by
   rw [hpl]
   have a := Int.emod_nonneg (g + 1) (b := m.gears + (if m.ring = true then 0 else 1)) (by split <;> omega)
   have b := Int.emod_lt_of_pos (g + 1) (b := m.gears + (if m.ring = true then 0 else 1)) (by split <;> omega)
   refine ⟨a, ?_⟩
   split at b <;> omega
  cases hr : m.ring
  ·rw [hr] at hpl
   simp only [Bool.false_eq_true, if_false] at hpl
   have hmod : (g + 1).tmod (m.gears + 1) = P := by rw [hpl, Int.tmod_eq_emod_of_nonneg (by omega)]
   have hnz : ¬ m.gears + 1 = 0 := by omega
   have hw1 : IntKind.i64.wrap g = g := IntWalk.i64_in _ (by omega)
   have hw2 : IntKind.i64.wrap (g + 1) = g + 1 := IntWalk.i64_in _ (by omega)
   have hw3 : IntKind.i64.wrap (m.gears + 1) = m.gears + 1 := IntWalk.i64_in _ (by omega)
   have hw : IntKind.i64.wrap P = P := IntWalk.i64_in _ (by omega)
   clear hpl hp hq hgq hP hPb
   go_enter Tryz.func89, Tryz.ntmps89
   go_wp2_with fail
   have hS := (SL.nil w).box (.cells #[.bool false, .int .i64 m.gears, .int .i64 m.turn, .slice ad m.sw.length cap] 24)
   have q1 := (hS.blk 0 rfl).1
   refine wp_region_q kR kR ?_
   repeat (first | ((with_reducible refine wpB_load F_boolM wU wU q1 wU ?_); (try simp only [Act.put, pA, pB, pC])) | ((refine wpB_call (.int .i64 1) wU (fun w' => ?_) (fun w' hw' => calls_below (btoi_any true w')) ?_); (focus (go_simp; done)); (try simp only [Act.put, pA, pB, pC])) |  ((with_reducible refine wpB_load (by first | exact F_int | fail) wU wU (by assumption) wU ?_); (try simp only [Act.put, pA, pB, pC])) | ((with_reducible refine wpB_loadS (n := 2) (us := #[_, _]) (by fail) kR wU wU (by assumption) wU wU ?_); (try simp only [Act.put, pA, pB, pC])) | ((with_reducible refine wpB_loadS (n := 4) (us := #[_, _, _, _]) (by fail) kR wU wU (by assumption) wU wU ?_); (try simp only [Act.put, pA, pB, pC])) | ((refine wpQ_oneG ?_ wU (fun w' => ?_) ?_); rotate_left; (go_simp; rfl); (try simp only [Act.put, pA, pB, pC])))
   refine wpQuiet_nil ?_
   intro w1 hb1
   go_wp2_with fail
   go_ret
   exact ⟨rfl, bnext hS.b hb1⟩
  ·rw [hr] at hpl
   simp only [if_true, Int.add_zero] at hpl
   have hmod : (g + 1).tmod (m.gears) = P := by rw [hpl, Int.tmod_eq_emod_of_nonneg (by omega)]
   have hnz : ¬ m.gears = 0 := by omega
   have hw1 : IntKind.i64.wrap g = g := IntWalk.i64_in _ (by omega)
   have hw2 : IntKind.i64.wrap (g + 1) = g + 1 := IntWalk.i64_in _ (by omega)
   have hw3 : IntKind.i64.wrap m.gears = m.gears := IntWalk.i64_in _ (by omega)
   have hw : IntKind.i64.wrap P = P := IntWalk.i64_in _ (by omega)
   clear hpl hp hq hgq hP hPb
   go_enter Tryz.func89, Tryz.ntmps89
   go_wp2_with fail
   have hS := (SL.nil w).box (.cells #[.bool true, .int .i64 m.gears, .int .i64 m.turn, .slice ad m.sw.length cap] 24)
   have q1 := (hS.blk 0 rfl).1
   refine wp_region_q kR kR ?_
   repeat (first | ((with_reducible refine wpB_load F_boolM wU wU q1 wU ?_); (try simp only [Act.put, pA, pB, pC])) | ((refine wpB_call (.int .i64 0) wU (fun w' => ?_) (fun w' hw' => calls_below (btoi_any false w')) ?_); (focus (go_simp; done)); (try simp only [Act.put, pA, pB, pC])) |  ((with_reducible refine wpB_load (by first | exact F_int | fail) wU wU (by assumption) wU ?_); (try simp only [Act.put, pA, pB, pC])) | ((with_reducible refine wpB_loadS (n := 2) (us := #[_, _]) (by fail) kR wU wU (by assumption) wU wU ?_); (try simp only [Act.put, pA, pB, pC])) | ((with_reducible refine wpB_loadS (n := 4) (us := #[_, _, _, _]) (by fail) kR wU wU (by assumption) wU wU ?_); (try simp only [Act.put, pA, pB, pC])) | ((refine wpQ_oneG ?_ wU (fun w' => ?_) ?_); rotate_left; (go_simp; rfl); (try simp only [Act.put, pA, pB, pC])))
   refine wpQuiet_nil ?_
   intro w1 hb1
   go_wp2_with fail
   go_ret
   exact ⟨rfl, bnext hS.b hb1⟩
 ·rw [if_neg (by decide), if_neg (by decide)] at hpl
  have HP := hid hpl
  clear hpl hp hq hgq
  go_enter Tryz.func89, Tryz.ntmps89
  go_wp2_with fail
  go_ret
  exact ⟨by rw [HP.out]; rfl, bal (Below.refl _ _) _⟩
end Go.Proofs.YtdeoogbiipodmaaGreat

namespace Go.Proofs.YtdeoogbiipodmaaGreat
open Go.RowKit
set_option maxHeartbeats 2000000
set_option maxRecDepth 100000

/-- the first index of a number, or -1. -/
def idxL (l : List Int) (x : Int) : Int := if l.findIdx (· == x) < l.length then l.findIdx (· == x) else -1
theorem idxL_found {l : List Int} {x : Int} {k : Nat} (hk : k < l.length) (h : atD 0 l k = x) (hno : ∀ j : Nat, j < k → atD 0 l j ≠ x) : idxL l x = k := by
 have hat : ∀ (j : Nat) (hj : j < l.length), atD 0 l j = l[j] := fun j hj => by simp [atD, hj]
 have e : l.findIdx (· == x) = k := by
  rw [List.findIdx_eq hk]
  refine ⟨by rw [← hat k hk, h]; simp, fun j hj => ?_⟩
  have := hno j hj
  rw [hat j (by omega)] at this
  simpa using this
 unfold idxL
 rw [e, if_pos hk]
theorem idxL_none {l : List Int} {x : Int} (hno : ∀ j : Nat, j < l.length → atD 0 l j ≠ x) : idxL l x = -1 := by
 have e : l.findIdx (· == x) = l.length := by
  rw [List.findIdx_eq_length]
  intro y hy
  obtain ⟨i, hi, rfl⟩ := List.mem_iff_getElem.1 hy
  have := hno i hi
  simp [atD, hi] at this
  simpa using this
 unfold idxL
 rw [e, if_neg (by omega)]
theorem idxL_contains (l : List Int) (x : Int) : decide (0 ≤ idxL l x) = l.contains x := by
 by_cases h : ∃ k : Nat, k < l.length ∧ atD 0 l k = x
 ·have hm : x ∈ l := by obtain ⟨k, hk, e⟩ := h; rw [← e]; simp [atD, hk]
  have hlt : l.findIdx (· == x) < l.length := List.findIdx_lt_length_of_exists ⟨x, hm, by simp⟩
  unfold idxL
  rw [if_pos hlt]
  simp [hm]
 ·have hno : ∀ j : Nat, j < l.length → atD 0 l j ≠ x := fun j hj e => h ⟨j, hj, e⟩
  have hm : x ∉ l := fun hm => by
   obtain ⟨i, hi, e⟩ := List.mem_iff_getElem.1 hm
   exact hno i hi (by simp [atD, hi, e])
  rw [idxL_none hno]
  simp [hm]

theorem sIndex_any (a : Option Addr) (cap : Nat) (l : List Int) (x : Int) (w : World) (h : Ints w a cap l) :
  Calls Tryz.prog 23 #[.slice a l.length cap, .int .i64 x] w fun r w' => r = .returned (.int .i64 (idxL l x)) ∧ w = w' := by
 have hcap := h.le
 have hm := h.max
 go_enter Tryz.func23, Tryz.ntmps23
 go_wp2
 go_loop [8, 5] (fun i _ => ∃ k : Nat, k ≤ l.length ∧ i = .int .i64 k ∧ ∀ j : Nat, j < k → atD 0 l j ≠ x) (fun i _ => l.length - (intOf i).toNat)
 case atStart => exact ⟨0, by omega, rfl, fun j hj => by omega⟩
 case round =>
  obtain ⟨k, hk, rfl, hno⟩ := hrel
  by_cases hlt : k < l.length
  ·have HN := hid hno; clear hno
   by_cases e : atD 0 l k = x
   ·have hd : (x == atD 0 l k) = true := by simp [e]
    have hf := idxL_found hlt e HN.out
    have HF := hid hf; clear hf e
    go_wp2_with (with_reducible refine wpList_idx _ 0 E_ints F_int cInt1 wU wU (h) oD oD (fun _ => wU) (fun _ => ?_))
    go_ret
    exact ⟨by rw [HF.out]; rfl, rfl⟩
   ·have hd : (x == atD 0 l k) = false := by simpa using fun h => e h.symm
    have HE := hid e; clear e
    go_wp2_with (with_reducible refine wpList_idx _ 0 E_ints F_int cInt1 wU wU (h) oD oD (fun _ => wU) (fun _ => ?_))
    go_round
    case rel =>
     refine ⟨k + 1, by omega, by go_num, fun j hj => ?_⟩
     by_cases e : j = k
     ·subst e; exact HE.out
     ·exact HN.out j (by omega)
    case measure => simp [intOf]; omega
  ·have hkl : k = l.length := by omega
   subst hkl
   have hf := idxL_none hno
   have HF := hid hf; clear hf hno
   go_wp2
   go_ret
   exact ⟨by rw [HF.out]; rfl, rfl⟩
theorem sContains_any (a : Option Addr) (cap : Nat) (l : List Int) (x : Int) (w : World) (h : Ints w a cap l) :
  Calls Tryz.prog 86 #[.slice a l.length cap, .int .i64 x] w fun r w' => r = .returned (.bool (l.contains x)) ∧ w = w' := by
 have hc := idxL_contains l x
 have HI := hid (fun w h => sIndex_any a cap l x w h)
 obtain ⟨i, hi⟩ : ∃ i, i = idxL l x := ⟨_, rfl⟩
 rw [← hi] at hc HI
 have HC := hid hc
 clear hc hi
 go_enter Tryz.func86, Tryz.ntmps86
 go_wp2_with (go_at_call 23; refine (HI.out _ h).mono ?_; rintro e w' ⟨rfl, rfl⟩)
 go_ret
 exact ⟨by rw [← HC.out]; rfl, rfl⟩

theorem pair_any (m : MacV) (ad : Option Addr) (cap : Nat) (p : Int) (w : World) (hg : m.gears ≤ 16) (h0 : 0 ≤ p) (h1 : p < m.gears) :
  Calls Tryz.prog 91 #[mV m ad cap, .int .i64 p] w fun r w' => r = .returned (.agg #[.int .i64 (4 * befM m p + 2), .int .i64 (4 * p)]) ∧ Below w.heap.size w w' := by
 obtain ⟨B, hB⟩ : ∃ B, B = befM m p := ⟨_, rfl⟩
 have hbp := bef_prog h0 h1
 have hmod : (p + m.gears - 1).tmod m.gears = B := by rw [Int.tmod_eq_emod_of_nonneg (by omega), hbp, hB]
 have hnz : ¬ m.gears = 0 := by omega
 have hB0 : 0 ≤ B ∧ B < m.gears := by rw [hB]; unfold befM; split <;> omega
 have hw : IntKind.i64.wrap B = B := IntWalk.i64_in _ (by omega)
 rw [← hB]
 clear hbp hB
 go_enter Tryz.func91, Tryz.ntmps91
 have hS := ((SL.nil w).box (.cells (mC m ad cap) 24)).box (.cells #[.int .i64 0, .int .i64 0] 99)
 simp only [World.size_alloc] at hS
 go_wp2_with ((with_reducible refine wpList_stoR (us := #[.int .i64 (4 * B + 2), .int .i64 (4 * p)]) 0 wU wU (hS) wU kR wU wU ?_); intro w1 hS1)
 exact bodyPost_ret (results_cell rfl rfl A_two kR (hS1.blk 0 rfl).1) rfl ⟨rfl, hS1.b⟩
theorem over_any (m : MacV) (ad : Option Addr) (cap : Nat) (s : Int) (w : World) (hR : Ints w ad cap m.sw) (hg : m.gears ≤ 16) (h0 : 0 ≤ s) (h1 : s < 4 * m.gears) :
  Calls Tryz.prog 57 #[mV m ad cap, .int .i64 s] w fun r w' => r = .returned (.int .i64 (overM m s)) ∧ Below w.heap.size w w' := by
 have CP := fun w => place_any m ad cap s w hg h0 h1
 have hov : overM m s = if goesM m s then 4 * befM m (placeM m s) + 2 + 4 * placeM m s - s else s := rfl
 have hgo : goesM m s = (decide (0 ≤ placeM m s) && sharedM m (placeM m s) && !m.sw.contains (placeM m s)) := rfl
 obtain ⟨O, hO⟩ : ∃ O, O = overM m s := ⟨_, rfl⟩
 obtain ⟨p, hp⟩ : ∃ p, p = placeM m s := ⟨_, rfl⟩
 obtain ⟨gs, hgs⟩ : ∃ g, g = goesM m s := ⟨_, rfl⟩
 rw [← hO, ← hgs, ← hp] at hov
 rw [← hgs, ← hp] at hgo
 rw [← hp] at CP
 rw [← hO]
 have CS := fun w => shared_any m ad cap p w
 have CC := fun w (h : Ints w ad cap m.sw) => sContains_any ad cap m.sw p w h
 have hcap := hR.le
 have hmx := hR.max
 have HP := hid CP; have HC := hid CC
 have hS := (SL.nil w).box (.cells (mC m ad cap) 24)
 clear CP CC hO hgs hp
 by_cases hp0 : 0 ≤ p
 ·have hpd : decide (p < 0) = false := decide_eq_false (by omega)
  have hpn : ¬ p < 0 := by omega
  cases hsh : sharedM m p
  ·have : gs = false := by rw [hgo, hsh]; simp
   rw [this] at hov
   simp only [Bool.false_eq_true, if_false] at hov
   rw [hsh] at CS
   have HS := hid CS
   subst hov
   clear CS hsh hgo this
   go_enter Tryz.func57, Tryz.ntmps57
   go_wp2_with fail
   refine (HP.out _).mono ?_
   rintro e w1 ⟨rfl, b1⟩
   have hS1 := hS.mono b1
   have q1 := (hS1.blk 0 rfl).1
   go_wp2_with (with_reducible refine wpList_ldS (n := 4) (us := mC m ad cap) A_mach kR wU wU (by assumption) wU wU ?_)
   refine (HS.out _).mono ?_
   rintro e w2 ⟨rfl, b2⟩
   have hS2 := hS1.mono b2
   go_wp2_with fail
   go_ret
   exact ⟨rfl, hS2.b⟩
  ·rw [hsh] at CS
   have hp1 := (shared_iff.1 hsh).2.1
   have HS := hid CS
   clear CS
   cases hc : m.sw.contains p
   ·have : gs = true := by rw [hgo, hsh, hc]; simp [hp0]
    rw [this] at hov
    simp only [if_true] at hov
    have CC := HC.out
    rw [hc] at CC
    have HC2 := hid CC
    have CQ := fun w => pair_any m ad cap p w hg hp0 hp1
    obtain ⟨B, hB⟩ : ∃ B, B = befM m p := ⟨_, rfl⟩
    have hB0 : 0 ≤ B ∧ B < m.gears := by rw [hB]; unfold befM; split <;> omega
    rw [← hB] at CQ hov
    have HQ := hid CQ
    have HOV := hid hov
    clear CC HC CQ hov hB hsh hgo this hc
    go_enter Tryz.func57, Tryz.ntmps57
    go_wp2_with fail
    refine (HP.out _).mono ?_
    rintro e w1 ⟨rfl, b1⟩
    have hS1 := hS.mono b1
    have q1 := (hS1.blk 0 rfl).1
    go_wp2_with (with_reducible refine wpList_ldS (n := 4) (us := mC m ad cap) A_mach kR wU wU (by assumption) wU wU ?_)
    refine (HS.out _).mono ?_
    rintro e w2 ⟨rfl, b2⟩
    have hS2 := hS1.mono b2
    have q2 := (hS2.blk 0 rfl).1
    go_wp2_with (with_reducible refine wpList_ldB F_sliceM wU wU q2 wU ?_)
    refine (HC2.out _ (hR.below hS2.b)).mono ?_
    rintro e w' ⟨rfl, rfl⟩
    go_wp2_with (with_reducible refine wpList_ldS (n := 4) (us := mC m ad cap) A_mach kR wU wU (by assumption) wU wU ?_)
    refine (HQ.out _).mono ?_
    rintro e w3 ⟨rfl, b3⟩
    have hS3 := (hS2.mono b3)
    go_wp2_with fail
    go_ret
    exact ⟨by rw [HOV.out]; rfl, bal hS3.b _⟩
   ·have : gs = false := by rw [hgo, hsh, hc]; simp
    rw [this] at hov
    simp only [Bool.false_eq_true, if_false] at hov
    have CC := HC.out
    rw [hc] at CC
    have HC2 := hid CC
    subst hov
    clear CC HC hsh hgo this hc
    go_enter Tryz.func57, Tryz.ntmps57
    go_wp2_with fail
    refine (HP.out _).mono ?_
    rintro e w1 ⟨rfl, b1⟩
    have hS1 := hS.mono b1
    have q1 := (hS1.blk 0 rfl).1
    go_wp2_with (with_reducible refine wpList_ldS (n := 4) (us := mC m ad cap) A_mach kR wU wU (by assumption) wU wU ?_)
    refine (HS.out _).mono ?_
    rintro e w2 ⟨rfl, b2⟩
    have hS2 := hS1.mono b2
    have q2 := (hS2.blk 0 rfl).1
    go_wp2_with (with_reducible refine wpList_ldB F_sliceM wU wU q2 wU ?_)
    refine (HC2.out _ (hR.below hS2.b)).mono ?_
    rintro e w' ⟨rfl, rfl⟩
    go_wp2_with fail
    go_ret
    exact ⟨rfl, hS2.b⟩
 ·have : gs = false := by rw [hgo]; simp [hp0]
  rw [this] at hov
  simp only [Bool.false_eq_true, if_false] at hov
  subst hov
  clear CS hgo this
  go_enter Tryz.func57, Tryz.ntmps57
  go_wp2_with fail
  refine (HP.out _).mono ?_
  rintro e w1 ⟨rfl, b1⟩
  have hS1 := hS.mono b1
  go_wp2_with fail
  go_ret
  exact ⟨rfl, hS1.b⟩
theorem mnext_any (m : MacV) (ad : Option Addr) (cap : Nat) (s : Int) (w : World) (hR : Ints w ad cap m.sw) (hg : m.gears ≤ 16) (h0 : 0 ≤ s) (h1 : s < 4 * m.gears) :
  Calls Tryz.prog 25 #[mV m ad cap, .int .i64 s] w fun r w' => r = .returned (.int .i64 (nextM m s)) ∧ Below w.heap.size w w' := by
 obtain ⟨g, hgq⟩ : ∃ g, g = s / 4 := ⟨_, rfl⟩
 obtain ⟨q, hq⟩ : ∃ q, q = s % 4 := ⟨_, rfl⟩
 have htd : s.tdiv 4 = g := by rw [hgq, Int.tdiv_eq_ediv_of_nonneg h0]
 have htm : s.tmod 4 = q := by rw [hq, Int.tmod_eq_emod_of_nonneg h0]
 have hg0 : 0 ≤ g ∧ g < m.gears := by omega
 have hq0 : 0 ≤ q ∧ q < 4 := by omega
 have hrr := rot_rng (m := m) h0 h1
 have hro : rotM m s = 4 * g + (q + (if fwdM m g then 1 else 3)) % 4 := by unfold rotM; rw [hgq, hq]
 have CF := fun w => forwards_any m ad cap g w hg0.1 (by omega)
 have CO := fun w h => over_any m ad cap (rotM m s) w h hg hrr.1 hrr.2.1
 have hnx : nextM m s = overM m (rotM m s) := rfl
 rw [← hnx] at CO
 obtain ⟨N, hN⟩ : ∃ N, N = nextM m s := ⟨_, rfl⟩
 rw [← hN] at CO ⊢
 have hS := (SL.nil w).box (.cells (mC m ad cap) 24)
 have hcap := hR.le
 have hmx := hR.max
 cases hf : fwdM m g
 ·rw [hf] at CF hro
  simp only [Bool.false_eq_true, if_false] at hro
  rw [hro] at CO
  have hmd : (q + 3).tmod 4 = (q + 3) % 4 := Int.tmod_eq_emod_of_nonneg (by omega)
  obtain ⟨z, hz⟩ : ∃ z, z = (q + 3) % 4 := ⟨_, rfl⟩
  have hz0 : 0 ≤ z ∧ z < 4 := by omega
  rw [← hz] at hmd CO
  have HF := hid CF; have HO := hid CO
  clear CF CO hro hnx hN hrr hgq hq hz hf
  go_enter Tryz.func25, Tryz.ntmps25
  go_wp2_with fail
  refine (HF.out _).mono ?_
  rintro e w1 ⟨rfl, b1⟩
  have hS1 := hS.mono b1
  have q1 := (hS1.blk 0 rfl).1
  go_wp2_with (with_reducible refine wpList_ldS (n := 4) (us := mC m ad cap) A_mach kR wU wU (by assumption) wU wU ?_)
  refine (HO.out _ (hR.below hS1.b)).mono ?_
  rintro e w2 ⟨rfl, b2⟩
  go_wp2_with fail
  go_ret
  exact ⟨rfl, bnext hS1.b b2⟩
 ·rw [hf] at CF hro
  simp only [if_true] at hro
  rw [hro] at CO
  have hmd : (q + 1).tmod 4 = (q + 1) % 4 := Int.tmod_eq_emod_of_nonneg (by omega)
  obtain ⟨z, hz⟩ : ∃ z, z = (q + 1) % 4 := ⟨_, rfl⟩
  have hz0 : 0 ≤ z ∧ z < 4 := by omega
  rw [← hz] at hmd CO
  have HF := hid CF; have HO := hid CO
  clear CF CO hro hnx hN hrr hgq hq hz hf
  go_enter Tryz.func25, Tryz.ntmps25
  go_wp2_with fail
  refine (HF.out _).mono ?_
  rintro e w1 ⟨rfl, b1⟩
  have hS1 := hS.mono b1
  have q1 := (hS1.blk 0 rfl).1
  go_wp2_with (with_reducible refine wpList_ldS (n := 4) (us := mC m ad cap) A_mach kR wU wU (by assumption) wU wU ?_)
  refine (HO.out _ (hR.below hS1.b)).mono ?_
  rintro e w2 ⟨rfl, b2⟩
  go_wp2_with fail
  go_ret
  exact ⟨rfl, bnext hS1.b b2⟩
end Go.Proofs.YtdeoogbiipodmaaGreat

namespace Go.Proofs.YtdeoogbiipodmaaGreat
open Go.RowKit
set_option maxHeartbeats 8000000
set_option maxRecDepth 100000

section
variable {ops : Array Oper} {rest : List Oper} {a : Act} {Qa : Act → Prop} {w : World} {d : Option Tmp} {ty : TypeId} {p : String} {af : Array Edge} {g : Option (Nat × Bool)} {x y : Operand} {ts : Array TypeId} {b : Bool} {e : Int}
/-- 'when' in a quiet region. -/
theorem wpB_when (hx : a.eval x = .bool b) (hy : a.eval y = .int .i64 e) (hg : Region.wanted (⟨d, .call { callee := .value (.func 53), args := #[x, y], argTypes := ts }, ty, p, af, g⟩ : Oper) (yielded ops a.tmps) = true)
  (h : wpQuiet Tryz.prog ops (Below w.heap.size w) Qa rest (a.put d (.int .i64 (if b then e else 0)))) :
  wpQuiet Tryz.prog ops (Below w.heap.size w) Qa (⟨d, .call { callee := .value (.func 53), args := #[x, y], argTypes := ts }, ty, p, af, g⟩ :: rest) a := by
 refine wpB_call (f := 53) (args := #[.bool b, .int .i64 e]) (.int .i64 (if b then e else 0)) hg (fun w' => ?_) (fun w' _ => calls_below (mwhen_any b e w')) h
 have e1 : a.eval (.func 53) = .func (.func 53) #[] #[] := rfl
 generalize a.eval = ev at hx hy e1
 simp [execOp, resolve, invoke, hx, hy, e1, Deferred.ofValue, go_sem, Tryz.func53]
end

theorem firstE_head {a : Int} {l : List Int} (h : a ≠ 0) : firstE (a :: l) = a := by rw [firstE_cons]; simp [h]
theorem firstE_z (l : List Int) : firstE (0 :: l) = firstE l := by rw [firstE_cons]; simp
theorem swGo_step (m : MacV) (k : Nat) (h : k < m.sw.length) (o : Option Int) : swGo m o (m.sw.drop k) = if sharedM m (atD 0 m.sw k) = false then 10 else match o with
  | none => swGo m (some (atD 0 m.sw k)) (m.sw.drop (k + 1))
  | some b => if atD 0 m.sw k ≤ b then 11 else swGo m (some (atD 0 m.sw k)) (m.sw.drop (k + 1)) := by
 have e : m.sw.drop k = atD 0 m.sw k :: m.sw.drop (k + 1) := by rw [List.drop_eq_getElem_cons h]; simp [atD, h]
 rw [e]
 cases o <;> rfl
end Go.Proofs.YtdeoogbiipodmaaGreat
