/- Contracts and plain facts that the claim uses (CyA PeA LtA RlB CiA EnP MaP MaQ MbP). Conditions: as each one states. -/
import Derived.RangeFuncNested
import Derived.RangeFuncBound
import Derived.RangeFuncCalls
import Derived.RangeFuncLeaves
import Derived.RangeFuncFrom
import Derived.Shelf.Abstract
import Derived.Shelf.RegionOpen
import Derived.WalkKit
import Derived.OwnWalkIn
import Derived.TacticsInMore
import Derived.LoopNIn
import Derived.LoopIn
import Derived.Test.YtndmeaoidihikaaGreatDoorProg
import Derived.WalkSpells
import Derived.Maps.AppendAt
import Derived.Deep.Quiet
import Derived.Maps.Own
import Derived.Maps.OwnSet
import Derived.Maps.Views
import Derived.WalkLawsBesides
import Derived.Laws.EntriesVeiled
import Derived.Deep.QuietTactic
import Derived.BigQuiet
import Derived.IntWalk
import Derived.Sort.LoopGhostIn
import Derived.StillTail
import Derived.Laws.Tables
import Derived.Deep.RegionHeld3
import Derived.Shelf.Strings.Trim
import Derived.Shelf.Strings.SlTrimAscii
import Derived.Shelf.Strings.Repeat
import Derived.Shelf.Strings.OnBuilder
import Derived.Shelf.Strconv.Itoa1
import Derived.Shelf.Strconv.Itoa3
import Derived.Shelf.LaysM
import Derived.Ground.Names2Prog
import Derived.Laws.CopyOwn
import Derived.Deep.RegionLaw
import Derived.BigRegion
import Derived.ChangeAlike
import Derived.Shelf.Bits.Mul64
import Derived.Lib.OthersKept
import Derived.Deep.AppendLies
import Derived.Deep.RegionHeldLaw
import Derived.Lib.ItoaLen
import Derived.Lib.ItoaMem
import Derived.Maps.RangeWalk
import Derived.Test.YtndmeaoidihikaaGreatDoorXz01
import Derived.Test.YtndmeaoidihikaaGreatDoorXz02
set_option linter.all false

namespace Go.Proofs.YtndmeaoidihikaaGreatDoor
open Go.RowKit Go.Shelf
attribute [local go_sem] Oper.semAt_some
set_option maxHeartbeats 2000000
set_option maxRecDepth 100000

theorem Reps.keep {α : Type} {c : α → Value} {sz : Nat} {w w' : World} {a : Option Addr} {cap : Nat} {l : List α} (h : Reps c sz w a cap l) (hk : ∀ b, a = some b → KeepAt b.block w w') : Reps c sz w' a cap l := by
 obtain ⟨h1, h2, h3, h4, h5⟩ := h
 refine ⟨h1, h2, h3, h4, fun j u hj => ?_⟩
 obtain ⟨b, o, e, hc⟩ := h5 j u hj
 exact ⟨b, o, e, (hk _ e).cell.trans hc⟩
/-- what the iterator must find again. -/
structure CyKeep (bi bp : Nat) (a : Option Addr) (A B : World) : Prop where
 i : KeepAt bi A B
 p : KeepAt bp A B
 s : ∀ b, a = some b → KeepAt b.block A B
theorem CyKeep.trans {bi bp : Nat} {a : Option Addr} {A B C : World} (h : CyKeep bi bp a A B) (k : CyKeep bi bp a B C) : CyKeep bi bp a A C :=
 ⟨Eq.trans k.i h.i, Eq.trans k.p h.p, fun b e => Eq.trans (k.s b e) (h.s b e)⟩

section
variable {p : List Int} (hp : IsP p) {i : Int} (h0 : 0 ≤ i) (h1 : i < p.length)
def itS (k : Nat) : Slot p.length := ⟨itP p i k, itP_rng hp h0 h1 k⟩
def orbS (d : Nat) : List (Slot p.length) := (List.range d).map (itS hp h0 h1)
theorem orbS_succ (d : Nat) : orbS hp h0 h1 (d + 1) = orbS hp h0 h1 d ++ [itS hp h0 h1 d] := by simp [orbS, List.range_succ]
theorem orbS_len (d : Nat) : (orbS hp h0 h1 d).length = d := by simp [orbS]
theorem orbS_val {d : Nat} (hd : Ord p i d) : (orbS hp h0 h1 d).map (·.1) = orb p i := by rw [orb_eq hd]; simp [orbS, itS, Function.comp_def]

theorem cycle1_in (m l bi bp cap : Nat) (a : Option Addr) (d : Nat) (hd : Ord p i d) (hn2 : p.length ≤ 1048576) (hm : 1 ≤ m) (J Jx : List (Slot p.length) → World → Prop)
  (hY : ∀ pre (x : Slot p.length) W, J pre W → pre.length < p.length → YieldAt Fence.wide (m - 1) Tryz.prog l (slotV x) W fun e W' =>
   (e = .returned (.bool true) ∧ J (pre ++ [x]) W' ∧ CyKeep bi bp a W W') ∨ (e = .returned (.bool false) ∧ Jx (pre ++ [x]) W'))
  (W : World) (hWi : W.cell? ⟨bi, 0, none⟩ = some (.int .i64 i)) (hWp : W.cell? ⟨bp, 0, none⟩ = some (.slice a p.length cap)) (hS : Ints W a cap p) (hJ0 : J [] W) :
  CallsIn Fence.wide m Tryz.prog 147 #[.func (.yield l) #[] #[], .pointer (some ⟨bi, 0, none⟩), .pointer (some ⟨bp, 0, none⟩)] W fun e W' => (∃ v, e = .returned v) ∧
   ((∃ ys, ys = orbS hp h0 h1 d ∧ J ys W') ∨ (∃ pre, (∃ k, pre = orbS hp h0 h1 k) ∧ Jx pre W')) := by
 refine callsIn_of_wp Tryz.func147 rfl trivial ?_ rfl
 simp only [Tryz.ntmps147, List.size_toArray, List.length_cons, List.length_nil, Nat.reduceAdd, Nat.reduceSub, Array.replicate_succ, Array.replicate_zero, List.push_toArray, List.append_toArray, List.nil_append, List.cons_append]
 gi_wp2
 gi_loopg [4] d (fun g x wr => ∃ k : Nat, k + g = d ∧ 0 < g ∧ x = .int .i64 (itP p i k) ∧ J (orbS hp h0 h1 k) wr ∧ wr.cell? ⟨bi, 0, none⟩ = some (.int .i64 i) ∧ wr.cell? ⟨bp, 0, none⟩ = some (.slice a p.length cap) ∧ Ints wr a cap p)
 case atStart => exact ⟨0, by omega, hd.pos, rfl, hJ0, hWi, hWp, hS⟩
 case round =>
  obtain ⟨k, hkg, hg0, rfl, hJs, hci, hcp, hSr⟩ := hrel
  have hdl := hd.le
  obtain ⟨fn, tmps, assign, body, hy, hR⟩ := hY _ (itS hp h0 h1 k) wr hJs (by rw [orbS_len]; omega)
  unfold slotV itS at hy
  dsimp only at hy
  gi_wp2
  refine hR.mono ?_
  rintro e W3 (⟨rfl, hJ3, hk3⟩ | ⟨rfl, hJx3⟩)
  ·have hci3 := hk3.i.cell.trans hci
   have hcp3 := hk3.p.cell.trans hcp
   have hS3 := hSr.keep hk3.s
   clear hci hcp hSr hJs hR hy
   have hr := itP_rng hp h0 h1 k
   obtain ⟨bb, oo, rfl, hcx⟩ := hS3.cells (by decide) 0 (itP p i k).toNat (by omega)
   have hcx := hcx 0 (.int .i64 (itP p i (k + 1))) rfl
   simp only [Nat.mul_one, Nat.add_zero] at hcx
   by_cases hlast : k + 1 = d
   ·have hb : itP p i (k + 1) = i := by rw [hlast]; exact hd.back
    rw [hb] at hcx
    have HB := hid hb; clear hb
    have HL := hid hlast; clear hlast
    gi_wp2
    refine bodyPost_ret (results_none rfl _ _ _) rfl ?_
    refine ⟨⟨_, rfl⟩, .inl ?_⟩
    first | exact ⟨_, rfl, by rw [← HL.out, orbS_succ]; exact hJ3⟩ | (rw [← HL.out, orbS_succ]; exact hJ3)
   ·have hne : (itP p i (k + 1) == i) = false := by simpa using hd.min (k + 1) (by omega) (by omega)
    gi_wp2
    gi_roundg (gk - 1)
    case measure => omega
    case rel => exact ⟨k + 1, by omega, by omega, rfl, by rw [orbS_succ]; exact hJ3, hci3, hcp3, hS3⟩
  ·gi_wp2
   go_end0
   refine ⟨⟨_, rfl⟩, .inr ⟨_, ⟨k + 1, (orbS_succ hp h0 h1 k).symm⟩, hJx3⟩⟩

theorem cycle_stops (m bi bp cap : Nat) (a : Option Addr) (d : Nat) (hd : Ord p i d) (hn2 : p.length ≤ 1048576) (hm : 1 ≤ m) (w : World) (hbi : bi < w.heap.size) (hbp : bp < w.heap.size)
  (hWi : w.cell? ⟨bi, 0, none⟩ = some (.int .i64 i)) (hWp : w.cell? ⟨bp, 0, none⟩ = some (.slice a p.length cap)) (hS : Ints w a cap p) :
  SeqStopsK Fence.wide m Tryz.prog 147 #[.pointer (some ⟨bi, 0, none⟩), .pointer (some ⟨bp, 0, none⟩)] (slotV (n := p.length)) (CyKeep bi bp a) (fun ys => ys = orbS hp h0 h1 d) (fun _ => True) p.length w := fun l J Jx W hW _ _ hY hJ0 => by
 have c1 := (hW.cell (p := ⟨bi, 0, none⟩) hbi).trans hWi
 have c2 := (hW.cell (p := ⟨bp, 0, none⟩) hbp).trans hWp
 refine (cycle1_in hp h0 h1 m l bi bp cap a d hd hn2 hm J Jx hY W c1 c2 (hS.below hW) hJ0).mono ?_
 rintro e W' ⟨he, ⟨ys, hys, hj⟩ | ⟨pre, _, hj⟩⟩
 ·exact ⟨he, .inl ⟨ys, hys, hj⟩⟩
 ·exact ⟨he, .inr ⟨pre, trivial, hj⟩⟩
end

theorem cycle_any (a : Option Addr) (n cap : Nat) (i : Int) (w : World) :
  Calls Tryz.prog 118 #[.slice a n cap, .int .i64 i] w fun r w' =>
   r = .returned (.func (.func 147) #[] #[.pointer (some ⟨w.heap.size + 1, 0, none⟩), .pointer (some ⟨w.heap.size, 0, none⟩)]) ∧ w' = (w.alloc (.cells #[.slice a n cap] 22)).alloc (.cells #[.int .i64 i] 3) := by
 go_enter Tryz.func118, Tryz.ntmps118
 go_wp2
 go_ret
 exact ⟨rfl, rfl⟩
end Go.Proofs.YtndmeaoidihikaaGreatDoor

namespace Go.Proofs.YtndmeaoidihikaaGreatDoor
open Go.RowKit Go.Shelf
attribute [local go_sem] Oper.semAt_some
set_option maxHeartbeats 2000000
set_option maxRecDepth 100000

abbrev SlH := Option Addr × Nat × Nat
abbrev cSl (x : SlH) : Value := .slice x.1 x.2.1 x.2.2
theorem cSl1 (x : SlH) : (cSl x).cells = #[cSl x] := rfl
theorem cSlS (x : SlH) : (cSl x).cells.size = 1 := rfl
theorem cSlO (x : SlH) : ∀ u ∈ (cSl x).cells.toList, u.oneCell' = true := by intro u hu; simp [cSl, Value.cells] at hu; subst hu; rfl
theorem E_sls : ETy Tryz.prog 32 22 (.slice none 0 0) 1 24 := ⟨Tryz.underlying32, by kernel_rfl, rfl, by decide⟩
theorem F_sl : Flat Tryz.prog 22 := ⟨_, Tryz.underlying22, rfl⟩
theorem E_bools : ETy Tryz.prog 40 4 (cBool false) 1 1 := ⟨Tryz.underlying40, by kernel_rfl, rfl, by decide⟩
theorem F_bool : Flat Tryz.prog 4 := ⟨_, Tryz.underlying4, rfl⟩

def inP (q : SlH × List Int) : Pc := pOwn cInt 1 3 (cSl q.1) q.2
def valS {n : Nat} (pre : List (Slot n)) : List Int := pre.map (·.1)
theorem valS_snoc {n : Nat} (pre : List (Slot n)) (x : Slot n) : valS (pre ++ [x]) = valS pre ++ [x.1] := by simp [valS]
theorem valS_len {n : Nat} (pre : List (Slot n)) : (valS pre).length = pre.length := by simp [valS]
def markS {n : Nat} (S : List Bool) (pre : List (Slot n)) : List Bool := pre.foldl (fun s x => s.set x.1.toNat true) S
theorem markS_snoc {n : Nat} (S : List Bool) (pre : List (Slot n)) (x : Slot n) : markS S (pre ++ [x]) = (markS S pre).set x.1.toNat true := by simp [markS]
theorem markS_len {n : Nat} : ∀ (pre : List (Slot n)) (S : List Bool), (markS S pre).length = S.length
 | [], S => rfl
 | x :: r, S => by rw [markS, List.foldl_cons]; exact (markS_len r _).trans (by simp)
theorem atD_setB (S : List Bool) (k x : Int) (hk : 0 ≤ k) (hx : 0 ≤ x) (hl : k < S.length) : atD false (S.set k.toNat true) x = (atD false S x || decide (x = k)) := by
 unfold atD
 by_cases e : x = k
 ·subst e
  have : x.toNat < S.length := by omega
  simp [this]
 ·have : ¬ k.toNat = x.toNat := by omega
  simp [List.getD_eq_getElem?_getD, List.getElem?_set_ne this, e]
theorem markS_at {n : Nat} : ∀ (pre : List (Slot n)) (S : List Bool), S.length = n → ∀ x : Int, 0 ≤ x → atD false (markS S pre) x = (atD false S x || decide (x ∈ valS pre))
 | [], S, _, x, _ => by simp [markS, valS]
 | y :: r, S, h, x, hx => by
   have := markS_at r (S.set y.1.toNat true) (by simpa using h) x hx
   rw [markS, List.foldl_cons]
   rw [markS] at this
   rw [this, atD_setB S y.1 x y.2.1 hx (by rw [h]; exact y.2.2), Bool.or_assoc]
   congr 1
   rw [Bool.eq_iff_iff]; simp [valS]
/-- what holds at the head of a round. -/
def CyI (w : World) (p : List Int) (k : Nat) (ad : Option Addr) (Hs : Nat) (S : List Bool) (ov : Value) (qs : List (SlH × List Int)) (Ds : List Nat) (wr : World) : Prop :=
 S.length = p.length ∧ (∀ x : Int, 0 ≤ x → x < p.length → atD false S x = decide (x ∈ (cycK p k).flatten)) ∧ qs.map Prod.snd = cycK p k ∧
  SL w.heap.size w wr (pBlk Hs (.cells #[.slice ad p.length p.length] 40) :: pOwn cBool 1 4 (.slice ad p.length p.length) S :: pOwn cSl 1 22 ov (qs.map Prod.fst) :: (qs.map inP ++ Ds.map pMark))
theorem cycK_in {p : List Int} {k : Nat} (h : (k : Int) ∈ (cycK p k).flatten) : cycK p (k + 1) = cycK p k := by rw [cycK, if_pos h]
theorem cycK_out {p : List Int} {k : Nat} (h : ¬ (k : Int) ∈ (cycK p k).flatten) : cycK p (k + 1) = cycK p k ++ [orb p k] := by rw [cycK, if_neg h]
theorem KeepAt.of_grown {b : Nat} {A B : World} {row : Option Nat} (hg : A.grownBy B row) (hb : b < A.heap.size) (hne : some b ≠ row) : KeepAt b A B := hg.block b hb hne
theorem KeepAt.trans {b : Nat} {A B C : World} (h : KeepAt b A B) (k : KeepAt b B C) : KeepAt b A C := Eq.trans k h
theorem KeepAt.set {b : Nat} {A : World} {x : Addr} {v : Value} (h : b ≠ x.block) : KeepAt b A (A.setCell x v) := Below.heap_setCell _ _ _ _ h

theorem cycles_any (a : Option Addr) (cap : Nat) (p : List Int) (w : World) (hS : Ints w a cap p) (hp : IsP p) (hn : p.length ≤ 1048576) :
  Calls Tryz.prog 86 #[.slice a p.length cap] w fun r w' => ∃ (v : Value) (qs : List (SlH × List Int)), r = .returned v ∧ qs.map Prod.snd = cycK p p.length ∧ SL w.heap.size w w' (pOwn cSl 1 22 v (qs.map Prod.fst) :: qs.map inP) := by
 have hcap := hS.le
 have hm := hS.max
 refine callsIn_wide.1 (callsIn_of_wp_marks (n := 9) (F := Fence.wide) Tryz.func86 rfl trivial ?_ rfl)
 simp only [Tryz.ntmps86, List.size_toArray, List.length_cons, List.length_nil, Nat.reduceAdd, Nat.reduceSub, Array.replicate_succ, Array.replicate_zero, List.push_toArray, List.append_toArray, List.nil_append, List.cons_append]
 refine wpIn_wide.2 ?_
 have hs0 := SL.nil w
 go_wp2_with ((with_reducible refine wpList_makeL (c := cBool) (p.length) (false) E_bools cBool1 wU wU (by omega) (by omega) (hs0) ?_); intro ad w1 hs1)
 obtain ⟨Hs, hHs⟩ : ∃ x, x = w1.heap.size := ⟨_, rfl⟩
 rw [← hHs]
 have hs2 := hs1.box (.cells #[.slice ad p.length p.length] 40)
 rw [← hHs] at hs2
 have hS2 := hS.below hs2.b
 clear hs1 hHs
 refine wp_loop (fun a' wr => ∃ (k : Nat) (S : List Bool) (ov : Value) (qs : List (SlH × List Int)) (Ds : List Nat) (u5 u6 u7 u14 u15 u16 u17 u18 u19 u20 u21 u22 u23 u24 u25 u26 u27 u28 u29 u30 u31 u32 u33 u34 u35 : Value), a' = { tmps := #[.slice a p.length cap, undef, .slice none 0 0, ov, .pointer (some ⟨Hs, 0, none⟩), u5, u6, u7, .slice a p.length cap, .int .i64 p.length, .slice ad p.length p.length, .slice a p.length cap, .int .i64 p.length, .int .i64 k, u14, u15, u16, u17, u18, u19, u20, u21, u22, u23, u24, u25, u26, u27, u28, u29, u30, u31, u32, u33, u34, u35, undef], defers := Ds.map markOf } ∧ k ≤ p.length ∧ CyI w p k ad Hs S ov qs Ds wr) (fun a' _ => p.length - (intOf (a'.tmps.getD 13 undef)).toNat) ?_ ?_
 ·refine ⟨0, List.replicate p.length false, .slice none 0 0, [], [], undef, undef, undef, undef, undef, undef, undef, undef, undef, undef, undef, undef, undef, undef, undef, undef, undef, undef, undef, undef, undef, undef, undef, undef, undef, rfl, Nat.zero_le _, by simp, ?_, rfl, ?_⟩
  ·intro x h0 h1
   have : x.toNat < p.length := by omega
   simp [atD, cycK, this]
  ·exact ((hs2.nilS (α := SlH) (e := 22) cSlS).pick [1, 2, 0] (by decide) _ rfl)
 ·rintro a' wr ⟨k, S, ov, qs, Ds, u5, u6, u7, u14, u15, u16, u17, u18, u19, u20, u21, u22, u23, u24, u25, u26, u27, u28, u29, u30, u31, u32, u33, u34, u35, rfl, hk, hlen, hsn, hqs, hSL⟩
  have hSr := hS.below hSL.b
  have hqlen : (qs.map Prod.fst).length ≤ k := by
   have h1 := cycK_len p k
   rw [← hqs] at h1; simpa using h1
  by_cases hlt : k < p.length
  ·have hsk := hsn k (by omega) (by omega)
   have HSN := hid hsn; clear hsn
   have HL := hid hlen; clear hlen
   have HQ := hid hqs; clear hqs
   have hsb := hSL.cell 0 rfl 0 rfl
   have hRB := hSL.rd 1 rfl
   by_cases hin : (k : Int) ∈ (cycK p k).flatten
   ·rw [decide_eq_true hin] at hsk
    have HSK := hid hsk; clear hsk
    have HIN := hid hin; clear hin
    go_wp2_with ((with_reducible refine wpList_idxN _ false E_bools F_bool cBool1 wU wU (hRB) (HL.out) oD oD (fun _ => wU) (fun _ => ?_)); rw [HSK.out])
    refine ⟨⟨k + 1, S, ov, qs, Ds, _, _, _, _, _, _, _, _, _, _, _, _, _, _, _, _, _, _, _, _, _, _, _, _, _, rfl, by omega, HL.out, ?_, ?_, hSL⟩, by simp [intOf]; omega⟩
    ·rw [cycK_in HIN.out]; exact HSN.out
    ·rw [cycK_in HIN.out]; exact HQ.out
   ·rw [decide_eq_false hin] at hsk
    have HSK := hid hsk; clear hsk
    have HIN := hid hin; clear hin
    go_wp2_with ((with_reducible refine wpList_idxN _ false E_bools F_bool cBool1 wU wU (hRB) (HL.out) oD oD (fun _ => wU) (fun pidx => ?_)); rw [HSK.out])
    refine (cycle_any _ _ _ _ _).mono ?_
    rintro e w3 ⟨rfl, rfl⟩
    go_wp2_with fail
    obtain ⟨d, hd⟩ := ord_ex hp (i := (k : Int)) (by omega) (by omega)
    have hk0 : (0 : Int) ≤ k := by omega
    have hk1 : (k : Int) < p.length := by omega
    have hS4 := (((hSL.nilS (α := Int) (e := 3) cIntS).box (.cells #[.slice none 0 0] 22)).box (.cells #[.slice a p.length cap] 22)).box (.cells #[.int .i64 k] 3)
    have hcn := hS4.cell 0 rfl 0 rfl
    have hcm := hS4.cell 1 rfl 0 rfl
    simp only [World.size_alloc] at hS4 hcn hcm
    have hmarks : ∀ D ∈ Ds, D < wr.heap.size := by
     intro D hD
     obtain ⟨i, hi, rfl⟩ := List.mem_iff_getElem.1 hD
     exact (hSL.blk (i + qs.length + 3) (k := Ds[i]) (o := .deferred (some [])) (by simp [pMark, hi, List.getElem?_append_right])).2.2
    have hokT : ∀ (lv : Value) (l : List Int) (S' : List Bool), ∀ q ∈ (pBlk (wr.heap.size + 1 + 1) (.cells #[.int .i64 k] 3) :: pBlk (wr.heap.size + 1) (.cells #[.slice a p.length cap] 22) :: pBlk wr.heap.size (.cells #[lv] 22) :: pOwn cInt 1 3 lv l ::
      pBlk Hs (.cells #[.slice ad p.length p.length] 40) :: pOwn cBool 1 4 (.slice ad p.length p.length) S' :: pOwn cSl 1 22 ov (qs.map Prod.fst) :: (qs.map inP ++ Ds.map pMark)), q.okT (wr.heap.size + 1 + 1 + 1) := by
     intro lv l S' q hq
     simp only [List.mem_cons, List.mem_map, List.mem_append] at hq
     rcases hq with rfl | rfl | rfl | rfl | rfl | rfl | rfl | ⟨z, _, rfl⟩ | ⟨D, hD, rfl⟩
     ·exact okT_cells
     ·exact okT_cells
     ·exact okT_cells
     ·exact okT_own
     ·exact okT_cells
     ·exact okT_own
     ·exact okT_own
     ·exact okT_own
     ·exact okT_lt (by have := hmarks D hD; omega)
    have HOK := hid hokT; clear hokT
    have hzr := hSL.z
    have hal : ∀ b, a = some b → b.block < w.heap.size := by
     intro b e
     obtain ⟨b1, o1, e1, hc⟩ := hS.cells (by decide) 0 k hlt
     have hc := hc 0 _ rfl
     rw [e] at e1; cases e1
     have := World.block_lt_of_cell? w _ hc
     exact this
    refine (wpIn_wide (n := 9)).1 ?_
    refine wpIn_rangeFunc_ownF rfl (by decide) (gf := 147) (lb := #[.pointer (some ⟨wr.heap.size + 1 + 1, 0, none⟩), .pointer (some ⟨wr.heap.size + 1, 0, none⟩)]) rfl trivial (enters_of Tryz.func147 kR rfl)
     (cycle_stops hp hk0 hk1 8 (wr.heap.size + 1 + 1) (wr.heap.size + 1) cap a d hd hn (by decide) _ (by simp) (by simp) hcn hcm (hSr.below ((((Below.refl _ _).alloc (Nat.le_refl _) _).alloc (by simp) _).alloc (by simp; omega) _)))
     (fun h1 h2 => h1.trans h2) (fun W j o o' hj _ _ _ => ⟨World.putObj_heap_other (by simp at hj; omega), World.putObj_heap_other (by simp at hj; omega), fun b e => World.putObj_heap_other (by have := hal b e; simp at hj; omega)⟩) (Below.refl _ _) (fun _ => rfl)
     (fun pre W => pre.length ≤ p.length ∧ ∃ lv, SL w.heap.size w W (pBlk (wr.heap.size + 1 + 1) (.cells #[.int .i64 k] 3) :: pBlk (wr.heap.size + 1) (.cells #[.slice a p.length cap] 22) :: pBlk wr.heap.size (.cells #[lv] 22) :: pOwn cInt 1 3 lv (valS pre) ::
      pBlk Hs (.cells #[.slice ad p.length p.length] 40) :: pOwn cBool 1 4 (.slice ad p.length p.length) (markS S pre) :: pOwn cSl 1 22 ov (qs.map Prod.fst) :: (qs.map inP ++ Ds.map pMark)))
     (fun _ _ _ => False) ?hI (fun _ _ _ _ _ hs _ _ => hs) ⟨by simp, .slice none 0 0, hS4⟩
     (fun x => { tmps := #[.slice a p.length cap, undef, .slice none 0 0, ov, .pointer (some ⟨Hs, 0, none⟩), .int .i64 k, .pointer (some ⟨wr.heap.size, 0, none⟩), .int .i64 x.1, .slice a p.length cap, .int .i64 p.length, .slice ad p.length p.length, .slice a p.length cap, .int .i64 p.length, .int .i64 k, .bool true, .int .i64 k, .slice ad p.length p.length, .int .i64 k, pidx, .bool false, .slice a p.length cap, .int .i64 k, .func (.func 147) #[] #[.pointer (some ⟨wr.heap.size + 1 + 1, 0, none⟩), .pointer (some ⟨wr.heap.size + 1, 0, none⟩)], .int .i64 x.1, u24, u25, u26, u27, u28, u29, u30, u31, u32, u33, u34, u35, undef], defers := [] }) ?assign ?body ?done ?stop
    case hI =>
     rintro s A B row ⟨hs1, lv, hs⟩ hg hr
     exact ⟨hs1, lv, hs.turn (C := wr.heap.size + 1 + 1 + 1) (by omega) (HOK.out _ _ _) hg (fun r e => by have := hr r e; simpa using this)⟩
    case assign =>
     intro l x W K hK
     dsimp only [slotV]
     gi_wp2
     exact hK
    case body =>
     rintro q pre x W ⟨hpl, lv, hs⟩ hlt2
     have hx0 := x.2.1
     have hx1 := x.2.2
     have hml := markS_len pre S
     obtain ⟨g, hgad, -, hcell, hfr, hS5⟩ := hs.setOwn cBool1 5 rfl x.1 hx0 (by rw [hml, HL.out]; exact hx1) true
     subst hgad
     have hsb2 := hs.cell 4 rfl 0 rfl
     have hlb := hs.cell 2 rfl 0 rfl
     have hn1 : ¬ g = wr.heap.size := hs.apart 5 2 (by decide) rfl rfl own_at blk_at
     have hn2 : g ≠ wr.heap.size + 1 := hs.apart 5 1 (by decide) rfl rfl own_at blk_at
     have hn3 : g ≠ wr.heap.size + 1 + 1 := hs.apart 5 0 (by decide) rfl rfl own_at blk_at
     have hgB : w.heap.size ≤ g := ((hs.own 5 rfl).lt g rfl).1
     obtain ⟨bv, hbv⟩ : ∃ bv, W.cell? ⟨g, x.1.toNat, none⟩ = some (.bool bv) := by
      have : x.1.toNat < (markS S pre).length := by rw [hml, HL.out]; omega
      exact ⟨(markS S pre)[x.1.toNat], by rw [hcell]; simp [this, cBool]⟩
     have H2 := hid hn2; clear hn2
     have H3 := hid hn3; clear hn3
     have HML := hid hml; clear hml
     clear hcell
     obtain ⟨X, hX⟩ : ∃ X : Int, X = x.1 := ⟨_, rfl⟩
     have hvl := valS_len pre
     have hvl2 : (valS pre).length ≤ 1048576 := by omega
     clear hvl
     gi_wp2_with (((with_reducible refine wpListIn_pushL (y := _) 3 E_ints wU wU (hS5) wU cIntO ⟨rfl, rfl⟩ (by first | with_unfolding_all rfl | simp) wU (by first | omega | (simp; omega)) (by first | omega | (simp; omega)) ?_); intro v6 w6 hP hg6 _); obtain ⟨a6, c6, rfl, _⟩ := hP.slice 3 rfl; have hlb6 := hP.cell 2 rfl 0 rfl; have hlf6 := hP.frozen 2 rfl 0)
     have hne0 := hS5.ne_own 3 0 (by decide) rfl rfl
     have hne1 := hS5.ne_own 3 1 (by decide) rfl rfl
     have hob := (hS5.own 3 rfl)
     refine ⟨((KeepsOthers.setCell _ _ _).trans (KeepsOthers.of_grownBy hg6 fun j o ej hj => ?_)).trans (KeepsOthers.setCell _ _ _), ⟨?_, ?_, fun b e => ?_⟩, by simp; omega, .slice a6 (valS pre ++ [x.1]).length c6, ?_⟩
     ·obtain ⟨o', h1, h2⟩ := own_isCells hob ej
      have h3 := hj.symm.trans h1
      cases h3; exact h2
     ·exact ((KeepAt.set (fun e => H3.out e.symm)).trans (KeepAt.of_grown hg6 (by have := (hS5.blk 0 rfl).2.2; exact this) (fun e => hne0 e.symm))).trans (KeepAt.set (by show _ ≠ wr.heap.size; omega))
     ·exact ((KeepAt.set (fun e => H2.out e.symm)).trans (KeepAt.of_grown hg6 (by have := (hS5.blk 1 rfl).2.2; exact this) (fun e => hne1 e.symm))).trans (KeepAt.set (by show _ ≠ wr.heap.size; omega))
     ·have hb := hal b e
      exact ((KeepAt.set (by show _ ≠ g; omega)).trans (KeepAt.of_grown hg6 (Nat.lt_of_lt_of_le hb hS5.z) (fun e => by have := (hob.lt _ e.symm).1; omega))).trans (KeepAt.set (by show _ ≠ wr.heap.size; omega))
     ·rw [valS_snoc, markS_snoc]
      have := hP.set 2 rfl 0 (.slice a6 (valS pre ++ [x.1]).length c6)
      have e : (valS pre ++ [x.1]).length = (valS pre).length + 1 := by simp
      rw [e] at this ⊢
      exact this
    case done =>
     rintro D ys W hD rfl ⟨hpl, lv, hs0⟩ hK
     have hs := hs0.addMark (C := wr.heap.size + 1 + 1 + 1) (HOK.out _ _ _) (by omega) (by simpa using hD) hK
     clear hs0
     obtain ⟨al, cl, rfl, _⟩ := hs.slice 4 rfl
     have hlb := hs.cell 3 rfl 0 rfl
     dsimp only
     go_wp2_with ((with_reducible refine wpList_pushL (y := ((al, (valS (orbS hp hk0 hk1 d)).length, cl) : SlH)) 7 E_sls wU wU (hs) wU cSlO ⟨rfl, rfl⟩ (by first | with_unfolding_all rfl | simp) wU (by first | omega | (simp; omega)) (by first | omega | (simp; omega)) ?_); intro v4 w4 hP)
     have hR1 := SL.pickA (K := [_, _, _, _, _, _, _, _]) (M := qs.map inP ++ Ds.map pMark) hP [5, 6, 7, 4, 0] (by decide) (by simp) [_, _, _, _, _] rfl
     refine ⟨⟨k + 1, markS S (orbS hp hk0 hk1 d), v4, qs ++ [((al, (valS (orbS hp hk0 hk1 d)).length, cl), valS (orbS hp hk0 hk1 d))], D :: Ds, _, _, _, _, _, _, _, _, _, _, _, _, _, _, _, _, _, _, _, _, _, _, _, _, _, rfl, by omega, ?_, ?_, ?_, ?_⟩, by simp [intOf]; omega⟩
     ·rw [markS_len, HL.out]
     ·intro x h0 h1
      rw [markS_at _ _ HL.out x h0, HSN.out x h0 h1, cycK_out HIN.out]
      rw [show valS (orbS hp hk0 hk1 d) = orb p k from orbS_val hp hk0 hk1 hd]
      simp
     ·rw [List.map_append, HQ.out, cycK_out HIN.out]
      rw [show valS (orbS hp hk0 hk1 d) = orb p k from orbS_val hp hk0 hk1 hd]
      rfl
     ·refine hR1.perm ?_
      rw [List.map_append, List.map_append]
      refine List.Perm.cons _ (List.Perm.cons _ (List.Perm.cons _ ?_))
      simp only [List.map_cons, List.map_nil, List.append_assoc, List.cons_append, List.nil_append]
      show (inP ((al, (valS (orbS hp hk0 hk1 d)).length, cl), valS (orbS hp hk0 hk1 d)) :: pMark D :: (qs.map inP ++ Ds.map pMark)).Perm _
      exact (List.perm_middle.trans (List.Perm.cons _ List.perm_middle)).symm
    case stop =>
     rintro D c pre W _ _ h _
     exact h.elim
  ·have hkk : k = p.length := by omega
   have HKK := hid hkk; clear hkk
   have HQ := hid hqs; clear hqs
   clear hsn hlen
   go_wp2_with fail
   refine SL.leave' (L := pOwn cSl 1 22 ov (qs.map Prod.fst) :: qs.map inP) hSL.tail.tail fun W hW => ⟨ov, ?_, ov, qs, rfl, by rw [HQ.out, HKK.out], hW⟩
   simp [results, Tryz.f86, go_sem]
end Go.Proofs.YtndmeaoidihikaaGreatDoor

namespace Go.Proofs.YtndmeaoidihikaaGreatDoor
open Go.RowKit Go.Shelf
set_option maxHeartbeats 1000000
set_option maxRecDepth 100000

theorem FDiv_any (p n : Int) (w : World) (p0 : 0 ≤ p) (p1 : p ≤ 4611686018427387904) (n0 : 0 < n) (n1 : n ≤ 4611686018427387904) :
  Calls Tryz.prog 88 #[fV p 1, fV n 1] w fun r w' => r = .returned (fV (p / Int.gcd p n) (n / Int.gcd p n)) ∧ Below w.heap.size w w' := by
 have h1 := fun w => Inv_any n 1 w n0 n1 (by decide) (by decide)
 have e : Int.gcd 1 n = 1 := by simp
 rw [e] at h1
 have e2 : (1 : Int) / ((1 : Nat) : Int) = 1 := by decide
 have e3 : n / ((1 : Nat) : Int) = n := by simp
 rw [e2, e3] at h1
 have HI := hid h1; clear h1 e e2 e3
 have h2 := fun w => FMul_any p 1 1 n w p0 p1 (by decide) (by decide) (by decide) (by decide) n0 n1 (by omega) (by omega)
 rw [Int.mul_one, Int.one_mul] at h2
 have HM := hid h2; clear h2
 obtain ⟨x, hx⟩ : ∃ x, x = p / Int.gcd p n := ⟨_, rfl⟩
 obtain ⟨y, hy⟩ : ∃ y, y = n / Int.gcd p n := ⟨_, rfl⟩
 rw [← hx, ← hy] at HM
 rw [← hx, ← hy]
 clear hx hy
 go_enter Tryz.func88, Tryz.ntmps88
 go_wp2
 have hS := (((SL.nil w).box (.cells #[.int .i64 p, .slice none 0 0, .int .i64 1, .slice none 0 0] 122)).box (.cells #[.int .i64 n, .slice none 0 0, .int .i64 1, .slice none 0 0] 122)).box (.cells #[.int .i64 0, .slice none 0 0, .int .i64 0, .slice none 0 0] 122)
 simp only [World.size_alloc] at hS
 have q1 := (hS.blk 1 rfl).1
 have q2 := (hS.blk 2 rfl).1
 refine wp_region_qt 4 kR kR ?_
 simp only [List.take_succ_cons, List.take_zero, List.drop_succ_cons, List.drop_zero]
 repeat (first | ((refine wpB_call (fV 1 n) wU (fun w' => ?_) (fun w' hw' => HI.out w') ?_); (focus (go_simp; done)); (try simp only [Act.put, pA, pB, pC])) | ((refine wpB_call (fV x y) wU (fun w' => ?_) (fun w' hw' => HM.out w') ?_); (focus (go_simp; done)); (try simp only [Act.put, pA, pB, pC])) |  ((with_reducible refine wpB_load (by first | exact F_int | exact F_u64s) wU wU (by assumption) wU ?_); (try simp only [Act.put, pA, pB, pC])) | ((with_reducible refine wpB_loadS (n := 2) (us := #[_, _]) A_int kR wU wU (by assumption) wU wU ?_); (try simp only [Act.put, pA, pB, pC])) | ((with_reducible refine wpB_loadS (n := 4) (us := #[_, _, _, _]) A_frac kR wU wU (by assumption) wU wU ?_); (try simp only [Act.put, pA, pB, pC])) | ((refine wpQ_oneG ?_ wU (fun w' => ?_) ?_); rotate_left; (go_simp; rfl); (try simp only [Act.put, pA, pB, pC])))
 refine wpQuiet_nil ?_
 intro w1 hb1
 replace hS := hS.mono hb1
 go_wp2_with ((with_reducible refine wpList_stoR (us := #[.int .i64 x, .slice none 0 0, .int .i64 y, .slice none 0 0]) 0 wU wU (hS) wU kR wU wU ?_); intro w2 hS2)
 exact bodyPost_ret (results_cell rfl rfl A_frac kR (hS2.blk 0 rfl).1) rfl ⟨rfl, hS2.b⟩

abbrev cU64 (x : Int) : Value := .int .u64 x
theorem cU64S (x : Int) : (cU64 x).cells.size = 1 := rfl
theorem parts_any (n : Int) (w : World) (h0 : 0 < n) (h1 : n ≤ 4611686018427387904) :
  Calls Tryz.prog 154 #[iV n] w fun r w' => ∃ v, r = .returned (.tuple #[.bool false, v]) ∧ SL w.heap.size w w' [pOwn cU64 1 186 v [n]] := by
 have hne : (n == 0) = false := by simp; omega
 have hn0 : ¬ n < 0 := by omega
 have hn1 : decide (n < 0) = false := by simp; omega
 have heq := fun (w : World) (a : Option Addr) (n c : Nat) => run_neq_slice_nil_any (P := Tryz.prog) w 118 186 a n c 0 0 Tryz.underlying118
 go_enter Tryz.func154, Tryz.ntmps154
 go_wp2
 have hS := ((SL.nil w).box (.cells #[.int .i64 n, .slice none 0 0] 120))
 have q1 := (hS.blk 0 rfl).1
 go_region_with (go_at_call 153; refine (nsize_any n _ (by omega) h1).mono ?_; rintro e w' ⟨rfl, rfl⟩)
 all_goals go_wp2
 all_goals go_ret2
 all_goals exact ⟨_, rfl, (SL.ofOwn (own_newN (w := w.alloc (.cells #[.int .i64 n, .slice none 0 0] 120)) cU64S [n] 1 rfl (by decide) #[cU64 n] (by simp) (by simp) rfl) (bal (bal (Below.refl _ _) _) _)).drew⟩

theorem Bits_any (n : Int) (w : World) (h0 : 0 < n) (h1 : n ≤ 4611686018427387904) :
  Calls Tryz.prog 182 #[iV n] w fun r w' => r = .returned (.int .i64 (Lib.bitLen n.toNat)) ∧ Below w.heap.size w w' := by
 have hbl := Lib.bitLen_le n.toNat 64 (by decide) (by omega)
 have HL := hid (fun w => Any.bits_Len64 { Tryz.lays171 with } n w (by omega) (by omega))
 obtain ⟨z, hz⟩ : ∃ z, z = Lib.bitLen n.toNat := ⟨_, rfl⟩
 rw [← hz] at HL hbl ⊢
 clear hz
 go_enter Tryz.func182, Tryz.ntmps182
 go_wp2_with fail
 refine (parts_any n _ h0 h1).mono ?_
 rintro e w1 ⟨v, rfl, hK⟩
 obtain ⟨a1, c1, rfl, hR⟩ := hK.slice 0 rfl
 have hR0 := hR.cells (by decide) 0 0 (by simp)
 obtain ⟨bb, oo, rfl, hcx⟩ := hR0
 have hcx := hcx 0 (cU64 n) rfl
 simp only [Nat.zero_mul, Nat.add_zero] at hcx
 have hb1 := hK.b
 clear hR hK
 go_wp2_with fail
 refine (HL.out _).mono ?_
 rintro e w2 ⟨rfl, rfl⟩
 go_wp2_with fail
 go_ret
 exact ⟨by congr 2, bnext (bal (Below.refl _ _) _) hb1⟩

theorem long_any (n : Int) (w : World) (h0 : 0 < n) (h1 : n ≤ 4611686018427387904) :
  Calls Tryz.prog 157 #[iV n] w fun r w' => r = .returned (.bool false) ∧ Below w.heap.size w w' := by
 have hbl := Lib.bitLen_le n.toNat 64 (by decide) (by omega)
 have HL := hid (fun w => Bits_any n w h0 h1)
 obtain ⟨z, hz⟩ : ∃ z, z = Lib.bitLen n.toNat := ⟨_, rfl⟩
 rw [← hz] at HL hbl
 clear hz
 have hd : decide ((1800 : Int) < z) = false := by simp; omega
 go_enter Tryz.func157, Tryz.ntmps157
 go_wp2_with fail
 refine (HL.out _).mono ?_
 rintro e w1 ⟨rfl, hb1⟩
 go_wp2_with fail
 go_ret
 exact ⟨rfl, bnext (bal (Below.refl _ _) _) hb1⟩

theorem Large_any (p q : Int) (w : World) (h0 : 0 < p) (h1 : p ≤ 4611686018427387904) (h2 : 0 < q) (h3 : q ≤ 4611686018427387904) :
  Calls Tryz.prog 122 #[fV p q] w fun r w' => r = .returned (.bool false) ∧ Below w.heap.size w w' := by
 have HP := hid (fun w => long_any p w h0 h1)
 have HQ := hid (fun w => long_any q w h2 h3)
 go_enter Tryz.func122, Tryz.ntmps122
 go_wp2_with fail
 refine (HP.out _).mono ?_
 rintro e w1 ⟨rfl, hb1⟩
 have hS := ((SL.nil w).box (.cells #[.int .i64 p, .slice none 0 0, .int .i64 q, .slice none 0 0] 122)).mono hb1
 have q1 := (hS.blk 0 rfl).1
 go_wp2_with (with_reducible refine wpList_ldS (n := 2) (us := #[_, _]) A_int kR wU wU (by assumption) wU wU ?_)
 refine (HQ.out _).mono ?_
 rintro e w2 ⟨rfl, hb2⟩
 go_wp2_with fail
 go_ret
 exact ⟨rfl, (hS.mono hb2).b⟩

theorem IsWhole_any (p : Int) (w : World) :
  Calls Tryz.prog 158 #[fV p 1] w fun r w' => r = .returned (.bool true) ∧ Below w.heap.size w w' := by
 have heq := fun (w : World) (a : Option Addr) (n c : Nat) => Lib.run_eql_slice_nil (P := Tryz.prog) w 118 186 a n c 0 0 Tryz.underlying118
 go_enter Tryz.func158, Tryz.ntmps158
 go_wp2
 go_ret
 exact ⟨rfl, bal (Below.refl _ _) _⟩

theorem String_any (n : Int) (w : World) (hI : ItoaOk w n) :
  Calls Tryz.prog 159 #[iV n] w fun r w' => r = .returned (.string (itoaB n)) ∧ Below w.heap.size w w' := by
 have HI := hid (hI _ (bal (Below.refl _ w) (.cells #[.int .i64 n, .slice none 0 0] 120)))
 have heq := fun (w : World) (a : Option Addr) (n c : Nat) => Lib.run_eql_slice_nil (P := Tryz.prog) w 118 186 a n c 0 0 Tryz.underlying118
 go_enter Tryz.func159, Tryz.ntmps159
 go_wp2_with fail
 refine HI.out.mono ?_
 rintro e w1 ⟨rfl, hb1⟩
 go_wp2_with fail
 go_ret
 exact ⟨rfl, bnext (bal (Below.refl _ _) _) hb1⟩
end Go.Proofs.YtndmeaoidihikaaGreatDoor

namespace Go.Proofs.YtndmeaoidihikaaGreatDoor
open Go.RowKit Go.Shelf
set_option maxHeartbeats 1000000
set_option maxRecDepth 100000

theorem Text_any (n : Int) (w : World) (hI : ItoaOk w n) :
  Calls Tryz.prog 123 #[fV n 1] w fun r w' => r = .returned (.string (itoaB n)) ∧ Below w.heap.size w w' := by
 have HW := hid (fun w => IsWhole_any n w)
 have HI := hid hI; clear hI
 go_enter Tryz.func123, Tryz.ntmps123
 go_wp2_with fail
 refine (HW.out _).mono ?_
 rintro e w1 ⟨rfl, hb1⟩
 have hS := ((SL.nil w).box (.cells #[.int .i64 n, .slice none 0 0, .int .i64 1, .slice none 0 0] 122)).mono hb1
 have q1 := (hS.blk 0 rfl).1
 go_wp2_with (with_reducible refine wpList_ldS (n := 2) (us := #[_, _]) A_int kR wU wU (by assumption) wU wU ?_)
 refine (String_any n _ (HI.out.below hS.b)).mono ?_
 rintro e w2 ⟨rfl, hb2⟩
 go_wp2_with fail
 go_ret
 exact ⟨rfl, (hS.mono hb2).b⟩

theorem result_any (n : Int) (w : World) (h0 : 0 < n) (h1 : n ≤ 4611686018427387904) (hI : ItoaOk w n) :
  Calls Tryz.prog 90 #[fV n 1] w fun r w' => r = .returned (.tuple #[.string (itoaB n), .int .i64 0]) ∧ Below w.heap.size w w' := by
 have HL := hid (fun w => Large_any n 1 w h0 h1 (by decide) (by decide))
 have HI := hid hI; clear hI
 go_enter Tryz.func90, Tryz.ntmps90
 go_wp2_with fail
 refine (HL.out _).mono ?_
 rintro e w1 ⟨rfl, hb1⟩
 have hS := ((SL.nil w).box (.cells #[.int .i64 n, .slice none 0 0, .int .i64 1, .slice none 0 0] 122)).mono hb1
 have q1 := (hS.blk 0 rfl).1
 go_wp2_with (with_reducible refine wpList_ldS (n := 4) (us := #[_, _, _, _]) A_frac kR wU wU (by assumption) wU wU ?_)
 refine (Text_any n _ (HI.out.below hS.b)).mono ?_
 rintro e w2 ⟨rfl, hb2⟩
 go_wp2_with fail
 go_ret2
 exact ⟨rfl, (hS.mono hb2).b⟩

def lensQ (qs : List (SlH × List Int)) : List Nat := qs.map fun q => q.2.length
def perS (p : List Int) : ByteArray := if permE p = 0 then itoaB (periodN p) else ⟨#[]⟩

/-- one step of the least common multiple, in small fractions. -/
theorem step_any (p n : Nat) (hp0 : 0 < p) (hp : p ≤ 34359738368) (hn0 : 0 < n) (hn : n ≤ 64) (w : World) :
  (Calls Tryz.prog 88 #[fV p 1, fV n 1] w fun r w' => r = .returned (fV ((p / Nat.gcd p n : Nat) : Int) ((n / Nat.gcd p n : Nat) : Int)) ∧ Below w.heap.size w w') ∧
  (Calls Tryz.prog 89 #[fV ((p / Nat.gcd p n : Nat) : Int) 1, fV n 1] w fun r w' => r = .returned (fV ((lcmF p n : Nat) : Int) 1) ∧ Below w.heap.size w w') := by
 have e1 : ((p / Nat.gcd p n : Nat) : Int) = (p : Int) / (Int.gcd p n : Int) := by rw [Int.natCast_ediv]; rfl
 have e2 : ((n / Nat.gcd p n : Nat) : Int) = (n : Int) / (Int.gcd p n : Int) := by rw [Int.natCast_ediv]; rfl
 refine ⟨?_, ?_⟩
 ·rw [e1, e2]
  exact FDiv_any p n w (by omega) (by omega) (by omega) (by omega)
 ·have hq : p / Nat.gcd p n ≤ p := Nat.div_le_self _ _
  unfold lcmF
  clear e1 e2
  generalize p / Nat.gcd p n = q at *
  have hl : q * n ≤ p * 64 := Nat.mul_le_mul hq hn
  have hqn : (q : Int) * (n : Int) = ((q * n : Nat) : Int) := (Int.natCast_mul _ _).symm
  have h := FMul_any (q : Int) 1 (n : Int) 1 w (by omega) (by omega) (by decide) (by decide) (by omega) (by omega) (by decide) (by decide) (by rw [hqn]; omega) (by decide)
  have e3 : Int.gcd ((q : Int) * (n : Int)) (1 * 1) = 1 := by simp
  rw [e3, hqn] at h
  have e4 : ((q * n : Nat) : Int) / ((1 : Nat) : Int) = ((q * n : Nat) : Int) := by simp
  rw [e4] at h
  exact h

theorem lens_len (qs : List (SlH × List Int)) : (lensQ qs).length = qs.length := by simp [lensQ]
theorem perF_take {ls : List Nat} {k : Nat} (h : k < ls.length) : perF (ls.take (k + 1)) = lcmF (perF (ls.take k)) ls[k] := by
 rw [List.take_succ_eq_append_getElem h, perF_snoc]
theorem sum_take_le : ∀ (ls : List Nat) (k : Nat), (ls.take k).sum ≤ ls.sum
 | [], k => by simp
 | x :: r, 0 => by simp
 | x :: r, k + 1 => by have := sum_take_le r k; simp; omega

theorem Period_any (a : Option Addr) (cap : Nat) (p : List Int) (w : World) (hS : Ints w a cap p) (hI : ∀ x ∈ p, InI x) (h64 : p.length ≤ 64) (hIt : permE p = 0 → ItoaOk w (periodN p)) :
  Calls Tryz.prog 43 #[.slice a p.length cap] w fun r w' => r = .returned (.tuple #[.string (perS p), .int .i64 (permE p)]) ∧ Below w.heap.size w w' := by
 have HC := hid (CheckPerm_any a cap p w hS hI)
 by_cases h : permE p = 0
 ·have hp := isP_of h
  have hit := hIt h
  have e0 : perS p = itoaB (periodN p) := by unfold perS; rw [if_pos h]
  have hc := HC.out
  rw [h] at hc
  rw [e0, h]
  clear HC e0
  have HC := hid hc; clear hc
  have HIT := hid hit; clear hit hIt
  have hcap := hS.le
  clear h
  go_enter Tryz.func43, Tryz.ntmps43
  go_wp2_with fail
  refine HC.out.mono ?_
  rintro e w1 ⟨rfl, hb1⟩
  go_wp2_with fail
  refine (F_any 1 _).mono ?_
  rintro e w2 ⟨rfl, hb2⟩
  go_wp2_with fail
  have hS0 := (((SL.nil w).mono hb1).mono hb2).box (.cells #[.int .i64 1, .slice none 0 0, .int .i64 1, .slice none 0 0] 122)
  refine (cycles_any a cap p _ (hS.below hS0.b) hp (by omega)).mono ?_
  rintro e w3 ⟨v, qs, rfl, hqs, hK⟩
  replace hS0 := hS0.call hK
  clear hK
  obtain ⟨av, cv, rfl, _⟩ := hS0.slice 0 rfl
  go_wp2_with fail
  have hlq : lensQ qs = (cycK p p.length).map List.length := by rw [← hqs]; simp [lensQ]
  have hsum : (lensQ qs).sum ≤ 64 := by rw [hlq]; exact Nat.le_trans (cycK_sum hp (Nat.le_refl _)) h64
  have hpos : ∀ n ∈ lensQ qs, 0 < n := by
   rw [hlq]; intro n hn
   obtain ⟨l, hl, rfl⟩ := List.mem_map.1 hn
   exact cycK_pos hp (Nat.le_refl _) l hl
  have hper : periodN p = perF (lensQ qs) := by rw [hlq]; rfl
  have hnq : qs.length ≤ 64 := by
   have h1 := cycK_len p p.length
   have h2 : (lensQ qs).length = (cycK p p.length).length := by rw [hlq]; simp
   rw [lens_len] at h2; omega
  have HPER := hid hper; clear hper
  have HPOS := hid hpos; clear hpos
  clear hlq hqs
  have HQL : Hid ((qs.map Prod.fst).length = qs.length) := hid (by simp)
  obtain ⟨H, hH⟩ : ∃ H, H = w2.heap.size := ⟨_, rfl⟩
  rw [← hH] at hS0 ⊢
  clear hH
  go_loopw [7, 8, 18] (fun _ _ i wr => ∃ k : Nat, k ≤ qs.length ∧ i = .int .i64 k ∧
   SL w.heap.size w wr (pBlk H (.cells #[.int .i64 (perF ((lensQ qs).take k)), .slice none 0 0, .int .i64 1, .slice none 0 0] 122) :: pOwn cSl 1 22 (.slice av qs.length cv) (qs.map Prod.fst) :: qs.map inP)) (fun _ _ i _ => qs.length - (intOf i).toNat)
  case atStart => exact ⟨0, by omega, rfl, SL.comm (K := pOwn cSl 1 22 (.slice av qs.length cv) (qs.map Prod.fst) :: qs.map inP) (L := [pBlk H (.cells #[.int .i64 1, .slice none 0 0, .int .i64 1, .slice none 0 0] 122)]) (by simpa using hS0)⟩
  case round =>
   obtain ⟨k, hk, rfl, hSr⟩ := hrel
   have hRq := hSr.rd 1 rfl
   by_cases hlt : k < qs.length
   ·have hlk : k < (lensQ qs).length := by rw [lens_len]; exact hlt
    have hpt := perF_take hlk
    obtain ⟨P0, hP0⟩ : ∃ P0, P0 = perF ((lensQ qs).take k) := ⟨_, rfl⟩
    obtain ⟨n, hn⟩ : ∃ n, n = (lensQ qs)[k] := ⟨_, rfl⟩
    have hn0 : 0 < n := by rw [hn]; exact HPOS.out _ (List.getElem_mem hlk)
    have hn1 : n ≤ 64 := by
     have h1 := sum_take_le (lensQ qs) (k + 1)
     rw [List.take_succ_eq_append_getElem hlk, List.sum_append] at h1
     rw [hn]; simp at h1; omega
    have hp0 : 0 < P0 := by rw [hP0]; exact perF_pos _ 1 (by decide) (fun m hm => HPOS.out m (List.mem_of_mem_take hm))
    have hp1 : P0 ≤ 34359738368 := by rw [hP0]; exact Nat.le_of_lt (perF_lt _ (Nat.le_trans (sum_take_le _ _) hsum))
    rw [← hP0, ← hn] at hpt
    rw [← hP0] at hSr
    have hst := fun w => step_any P0 n hp0 hp1 hn0 hn1 w
    obtain ⟨Z1, hZ1⟩ : ∃ Z : Nat, Z = P0 / Nat.gcd P0 n := ⟨_, rfl⟩
    obtain ⟨Z2, hZ2⟩ : ∃ Z : Nat, Z = n / Nat.gcd P0 n := ⟨_, rfl⟩
    obtain ⟨Z3, hZ3⟩ : ∃ Z : Nat, Z = lcmF P0 n := ⟨_, rfl⟩
    rw [← hZ1, ← hZ2, ← hZ3] at hst
    rw [← hZ3] at hpt
    have HPT := hid hpt; clear hpt
    have HST := hid hst; clear hst
    clear hZ1 hZ2 hZ3
    have hel : (atD (none, 0, 0) (qs.map Prod.fst) k).2.1 = n := by
     have hw := (hSr.own (k + 2) (c := cInt) (sz := 1) (e := 3) (v := cSl qs[k].1) (l := qs[k].2) (by simp [inP, hlt]))
     obtain ⟨a', cap', e1, _⟩ := hw.reps
     have e2 : qs[k].1.2.1 = qs[k].2.length := by have := congrArg (fun v : Value => match v with | .slice _ n _ => n | _ => 0) e1; simpa using this
     rw [hn]
     simp [atD, hlt, e2, lensQ]
    have HEL := hid hel; clear hel
    clear hn hP0
    go_wp2_with ((with_reducible refine wpList_idxN _ ((none, 0, 0) : SlH) E_sls F_sl cSl1 wU wU (hRq) (HQL.out) oD oD (fun _ => wU) (fun _ => ?_)); (try simp only [cSl]); rw [HEL.out])
    refine (F_any n _).mono ?_
    rintro e w4 ⟨rfl, hb4⟩
    replace hSr := (hSr.mono hb4).box (.cells #[.int .i64 n, .slice none 0 0, .int .i64 1, .slice none 0 0] 122)
    go_wp2_with fail
    have q0 := (hSr.blk 0 rfl).1
    have q1 := (hSr.blk 1 rfl).1
    refine wp_region_qt 7 kR kR ?_
    simp only [List.take_succ_cons, List.take_zero, List.drop_succ_cons, List.drop_zero]
    ((with_reducible refine wpB_loadS (n := 4) (us := #[_, _, _, _]) A_frac kR wU wU (by assumption) wU wU ?_); (try simp only [Act.put, pA, pB, pC]))
    ((with_reducible refine wpB_loadS (n := 4) (us := #[_, _, _, _]) A_frac kR wU wU (by assumption) wU wU ?_); (try simp only [Act.put, pA, pB, pC]))
    ((refine wpB_call (fV Z1 Z2) wU (fun w' => ?_) (fun w' hw' => (HST.out w').1) ?_); (focus (go_simp; done)); (try simp only [Act.put, pA, pB, pC]))
    refine wpQ_oneG (iV Z1) wU (fun w' => ?_) ?_
    ·go_simp
     kernel_rfl
    ((refine wpB_call (fV Z1 1) wU (fun w' => ?_) (fun w' hw' => Whole_any _ w') ?_); (focus (go_simp; done)); (try simp only [Act.put, pA, pB, pC]))
    ((with_reducible refine wpB_loadS (n := 4) (us := #[_, _, _, _]) A_frac kR wU wU (by assumption) wU wU ?_); (try simp only [Act.put, pA, pB, pC]))
    ((refine wpB_call (fV Z3 1) wU (fun w' => ?_) (fun w' hw' => (HST.out w').2) ?_); (focus (go_simp; done)); (try simp only [Act.put, pA, pB, pC]))
    refine wpQuiet_nil ?_
    intro w5 hb5
    replace hSr := hSr.mono hb5
    clear q0 q1
    go_wp2_with ((with_reducible refine wpList_stoR (us := #[.int .i64 Z3, .slice none 0 0, .int .i64 1, .slice none 0 0]) 1 wU wU (hSr) wU kR wU wU ?_); intro w6 hS6)
    refine ⟨⟨k + 1, by omega, by go_num, ?_⟩, by simp [intOf]; omega⟩
    rw [HPT.out]
    exact hS6.tail
   ·have hkq : k = qs.length := by omega
    have hlk : (lensQ qs).take k = lensQ qs := List.take_of_length_le (by rw [lens_len]; omega)
    rw [hlk, ← HPER.out] at hSr
    have hN0 : 0 < periodN p := by rw [HPER.out]; exact perF_pos _ 1 (by decide) HPOS.out
    have hN1 : periodN p < 34359738368 := by rw [HPER.out]; exact perF_lt _ hsum
    clear hlk
    have HKQ := hid hkq; clear hkq
    have q0 := (hSr.blk 0 rfl).1
    go_wp2_with (with_reducible refine wpList_ldS (n := 4) (us := #[_, _, _, _]) A_frac kR wU wU (by assumption) wU wU ?_)
    refine (result_any (periodN p) _ (by omega) (by omega) (HIT.out.below hSr.b)).mono ?_
    rintro e w4 ⟨rfl, hb4⟩
    go_wp2_with fail
    go_ret2
    exact ⟨rfl, (hSr.mono hb4).b⟩
 ·have e0 : perS p = ⟨#[]⟩ := by unfold perS; rw [if_neg h]
  have hne : (permE p != 0) = true := by simpa using h
  rw [e0]
  clear e0 h hIt
  go_enter Tryz.func43, Tryz.ntmps43
  go_wp2_with fail
  refine HC.out.mono ?_
  rintro e w1 ⟨rfl, hb1⟩
  go_wp2_with fail
  go_ret2
  exact ⟨rfl, hb1⟩
end Go.Proofs.YtndmeaoidihikaaGreatDoor

namespace Go.Proofs.YtndmeaoidihikaaGreatDoor
open Go.RowKit Go.Maps
set_option maxRecDepth 100000

section
variable {P : Program} {ops : Array Oper} {Q : Exit → Act → World → Prop} {md : Region.Mode} {C : World → Prop}
theorem wpAnyC_on {fuel : Nat} {listed : Array Bool} {a : Act} {w : World} (is : List Nat) (hr : Region.ready md ops listed = is) (hne : is ≠ []) (h : ∀ i ∈ is, wpOp P ops Q i (fun a' w' => C w' ∧ wpAnyC P md ops C Q fuel (listed.setIfInBounds i true) a' w') a w) : wpAnyC P md ops C Q (fuel + 1) listed a w :=
 ⟨fun h => absurd (hr ▸ h) hne, fun i hi => h i (hr ▸ hi)⟩
theorem wpOp_value {i : Nat} {o : Oper} {v : Value} {a : Act} {w w' : World} (hi : ops[i]? = some o) (hw : Region.wanted o (yielded ops a.tmps) = true) (hrun : (execOp a.eval o).run P w = .ok (.value v) w') {K : Act → World → Prop} (h : K (a.put o.dst v) w') : wpOp P ops Q i K a w := by
 unfold wpOp
 simp only [hi, hw, if_true, Oper.wp, hrun, Oper.upon]
 exact .inl h
end
theorem of_wpList_nil {P : Program} {ops : Array Oper} {Q : Exit → Act → World → Prop} {a : Act} {w : World} (h : wpList P ops Q [] a w) : Q .normal a w := h
theorem MapI.le {w : World} {b n n' : Nat} {f : Int → Int} (h : MapI w b n f) (hn : n ≤ n') : MapI w b n' f := by
 obtain ⟨D, h1, h2⟩ := h; exact ⟨D, h1.mono hn, h2⟩
end Go.Proofs.YtndmeaoidihikaaGreatDoor

namespace Go.Proofs.YtndmeaoidihikaaGreatDoor
open Go.RowKit Go.Maps
set_option maxHeartbeats 1000000
set_option maxRecDepth 100000

end Go.Proofs.YtndmeaoidihikaaGreatDoor

namespace Go.Proofs.YtndmeaoidihikaaGreatDoor
open Go.RowKit
section
variable {P : Program} {ops : Array Oper} {Q : Exit → Act → World → Prop} {C : World → Prop}
theorem wpOp_call {i : Nat} {o : Oper} {f : FuncId} {args : Array Value} {a : Act} {w : World} (hi : ops[i]? = some o) (hw : Region.wanted o (yielded ops a.tmps) = true) (hrun : (execOp a.eval o).run P w = .ok (.enter f args) w) {K : Act → World → Prop}
   (h : Calls P f args w fun e w' => ∃ v, e = .returned v ∧ K (a.put o.dst v) w') : wpOp P ops Q i K a w := by
 unfold wpOp
 simp only [hi, hw, if_true, Oper.wp, hrun, Oper.upon]
 refine .inl (h.mono ?_)
 rintro e w' ⟨v, rfl, hK⟩
 exact hK
/-- what is left gives the same in every world of the class: in any order. -/
theorem wpAnyC_rest {md : Region.Mode} {w : World} {listed : Array Bool} {a : Act} {n : Nat} (qs : List Nat) (lo : List Oper) (hn : n = qs.length) (hlo : qs.map (fun i => ops[i]?) = lo.map some) (hsel : Region.noSelect ops = true) (hB : Region.firstB md ops qs listed = true)
   (hr : Region.ready md ops (listAll listed qs) = []) (hC : C w) (h : wpPure P ops C (fun a' => Q .normal a' w) lo a) : wpAnyC P md ops C (NoPanic Q) n listed a w := by
 subst hn
 have := wpAnyC_pure (g := 0) hsel (fun c a w h => h) hC qs lo listed a hlo hB (C := C) (Q := NoPanic Q) (P := P) (md := md)
 rw [Nat.zero_add] at this
 refine this ?_
 clear this
 revert h
 have : ∀ (l : List Oper) (a : Act), wpPure P ops C (fun a' => Q .normal a' w) l a → wpPure P ops C (fun a' => wpAnyC P md ops C (NoPanic Q) 0 (listAll listed qs) a' w) l a := by
  intro l
  induction l with
  | nil => intro a h; exact ⟨hr, h⟩
  | cons o r ih => intro a ⟨v, hy, hk⟩; exact ⟨v, hy, ih _ hk⟩
 exact this lo a
end
end Go.Proofs.YtndmeaoidihikaaGreatDoor

namespace Go.Proofs.YtndmeaoidihikaaGreatDoor
open Go.RowKit
section
variable {P : Program} {ops : Array Oper} {Q : Exit → Act → World → Prop} {md : Region.Mode} {C : World → Prop}

/-- the same value in every world of the class, the world left alone. -/
def YieldsK (P : Program) (ops : Array Oper) (C : World → Prop) (o : Oper) (v : Value) (a : Act) : Prop :=
 (Region.wanted o (yielded ops a.tmps) = true ∧ ∀ w, C w → (execOp a.eval o).run P w = .ok (.value v) w) ∨
 (Region.wanted o (yielded ops a.tmps) = false ∧ v = undef) ∨
 (Region.wanted o (yielded ops a.tmps) = true ∧ ∃ (f : FuncId) (args : Array Value), (∀ w, C w → (execOp a.eval o).run P w = .ok (.enter f args) w) ∧ ∀ w, C w → Calls P f args w fun e w' => e = .returned v ∧ w = w')
theorem YieldsK.wpOp {i : Nat} {o : Oper} {v : Value} {a : Act} (hi : ops[i]? = some o) (hy : YieldsK P ops C o v a)
  {K : Act → World → Prop} {w : World} (hC : C w) (h : K (a.put o.dst v) w) : wpOp P ops Q i K a w := by
 unfold Go.wpOp
 simp only [hi]
 rcases hy with ⟨hw, hv⟩ | ⟨hw, rfl⟩ | ⟨hw, f, args, hr, hc⟩
 ·simp only [hw, if_true, Oper.wp, hv w hC, Oper.upon]; exact .inl h
 ·simp only [hw, Bool.false_eq_true, if_false]; exact h
 ·simp only [hw, if_true, Oper.wp, hr w hC, Oper.upon]
  refine .inl ((hc w hC).mono ?_)
  rintro e w' ⟨rfl, rfl⟩
  exact h
theorem YieldsK.of_same {o : Oper} {v : Value} {a a' : Act} (hy : YieldsK P ops C o v a) (he : execOp a'.eval o = execOp a.eval o)
  (hw : Region.wanted o (yielded ops a'.tmps) = Region.wanted o (yielded ops a.tmps)) : YieldsK P ops C o v a' := by
 unfold YieldsK at *
 rw [he, hw]
 exact hy

theorem wpOp_putK {j : Nat} {oi oj : Oper} {v : Value} (hj : ops[j]? = some oj) (hap : oi.apart ops oj = true)
  (hsi : ∀ cs b, oi.op ≠ .select cs b) (hsj : ∀ cs b, oj.op ≠ .select cs b)
  (hQ : ∀ c a w, ¬ Q (.panic c) a w) {K : Act → World → Prop} {a : Act} {w : World}
  (hy : YieldsK P ops C oi v a) (h : wpOp P ops Q j K (a.put oi.dst v) w) :
  wpOp P ops Q j (fun a' w' => YieldsK P ops C oi v a' ∧ K (a'.put oi.dst v) w') a w := by
 obtain ⟨h1, h2, h3⟩ := Oper.apart_spec hap
 have keep : ∀ (a : Act), YieldsK P ops C oi v a → ∀ u, YieldsK P ops C oi v (a.put oj.dst u) := fun a hy u =>
  hy.of_same (execOp_put oi hsi a oj.dst u h3) (wanted_put oi a oj.dst u h3)
 have keepD : ∀ d, YieldsK P ops C oi v { a with defers := d :: a.defers } := fun d => hy.of_same rfl rfl
 unfold wpOp at *
 simp only [hj] at *
 rw [wanted_put oj a oi.dst v h1] at h
 split
 ·rename_i hw
  simp only [hw, if_true] at h
  rcases h with h | ⟨hasks, hlets⟩
  case inr => exact .inr ⟨by unfold Oper.asks at *; rw [execOp_put oj hsj a oi.dst v h1] at hasks; exact hasks, hlets⟩
  refine .inl ?_
  unfold Oper.wp at *
  rw [execOp_put oj hsj a oi.dst v h1] at h
  generalize (execOp a.eval oj).run P w = r at *
  cases r with
  | ok n w' =>
   cases n <;> simp only [Oper.upon] at h ⊢
   case value u => exact ⟨keep a hy u, by rw [← Act.put_comm a v u h2]; exact h⟩
   case skip => exact ⟨keep a hy _, by rw [← Act.put_comm a v undef h2]; exact h⟩
   case defer d =>
    refine ⟨keep _ (keepD d) _, ?_⟩
    rw [← Act.put_comm _ v undef h2, ← Act.put_defers]
    exact h
   case enter f args =>
    refine Calls.mono h fun e w'' he => ?_
    cases e with
    | returned u => exact ⟨keep a hy u, by rw [← Act.put_comm a v u h2]; exact he⟩
    | panicked c => exact absurd he (hQ _ _ _)
    | outgrown => exact he
   case row row args => exact Rows.mono h fun u w'' he => ⟨keep a hy u, by rw [← Act.put_comm a v u h2]; exact he⟩
  | halt x w' =>
   cases x <;> simp only [Oper.upon] at h ⊢
   case panic u => exact absurd h (hQ _ _ _)
 ·rename_i hw
  simp only [hw] at h
  exact ⟨keep a hy _, by rw [← Act.put_comm a v undef h2]; exact h⟩

theorem wpAnyK_first {i : Nat} {oi : Oper} {v : Value} (hi : ops[i]? = some oi) (hsel : ∀ (j : Nat) (o : Oper) cs b, ops[j]? = some o → o.op ≠ .select cs b) (hQ : ∀ c a w, ¬ Q (.panic c) a w) :
  ∀ (fuel : Nat) (listed : Array Bool) (a : Act) (w : World), C w →
   (∀ j oj, ops[j]? = some oj → j ≠ i → listed.getD j true = false → (∀ e ∈ oj.after, Region.binds md e = true → e.on ≠ i) → oi.apart ops oj = true) →
   i ∈ Region.ready md ops listed → YieldsK P ops C oi v a →
   wpAnyC P md ops C Q fuel (listed.setIfInBounds i true) (a.put oi.dst v) w → wpAnyC P md ops C Q (fuel + 1) listed a w := by
 intro fuel
 induction fuel with
 | zero =>
  intro listed a w hC _ hr hy H
  refine ⟨fun h => (by rw [h] at hr; cases hr), fun j hj => ?_⟩
  by_cases hji : j = i
  ·subst hji; exact hy.wpOp hi hC ⟨hC, H⟩
  ·have := ready_mono hj hji
   rw [H.1] at this
   cases this
 | succ fuel ih =>
  intro listed a w hC hfree hr hy H
  refine ⟨fun h => (by rw [h] at hr; cases hr), fun j hj => ?_⟩
  by_cases hji : j = i
  ·subst hji; exact hy.wpOp hi hC ⟨hC, H⟩
  ·have h1 := H.2 j (ready_mono hj hji)
   obtain ⟨hjun, oj, hoj, hall⟩ := mem_ready.1 hj
   have hnot : ∀ e ∈ oj.after, Region.binds md e = true → e.on ≠ i := fun e he hb heq => by
    have h1 := hall e he hb
    have h0 := (mem_ready.1 hr).1
    rw [heq, getD_both h0] at h1
    cases h1
   have h2 := wpOp_putK hoj (hfree j oj hoj hji hjun hnot) (fun cs b => hsel i oi cs b hi) (fun cs b => hsel j oj cs b hoj) hQ hy h1
   have hfree' : ∀ k ok, ops[k]? = some ok → k ≠ i → (listed.setIfInBounds j true).getD k true = false →
     (∀ e ∈ ok.after, Region.binds md e = true → e.on ≠ i) → oi.apart ops ok = true := fun k ok hk hki hun hno => by
    refine hfree k ok hk hki ?_ hno
    by_cases hjk : j = k
    ·subst hjk; exact hjun
    ·rw [getD_set_ne true hjk] at hun; exact hun
   refine wpOp_mono (fun a' w' h3 => ⟨h3.2.1, ih (listed.setIfInBounds j true) a' w' h3.2.1 hfree' (ready_mono hr (Ne.symm hji)) h3.1 ?_⟩) h2
   rw [Array.setIfInBounds_comm _ _ hji]
   exact h3.2.2

/-- the walk of those. -/
def wpPureK (P : Program) (ops : Array Oper) (C : World → Prop) (K : Act → Prop) : List Oper → Act → Prop
 | [], a => K a
 | o :: r, a => ∃ v, YieldsK P ops C o v a ∧ wpPureK P ops C K r (a.put o.dst v)
theorem wpAnyK_pure (hsel : Region.noSelect ops = true) (hQ : ∀ c a w, ¬ Q (.panic c) a w) {w : World} (hC : C w) {g : Nat} : ∀ (qs : List Nat) (l : List Oper) (listed : Array Bool) (a : Act), qs.map (fun i => ops[i]?) = l.map some →
  Region.firstB md ops qs listed = true → wpPureK P ops C (fun a' => wpAnyC P md ops C Q g (listAll listed qs) a' w) l a → wpAnyC P md ops C Q (g + qs.length) listed a w
 | [], [], listed, a, _, _, h => h
 | [], _ :: _, _, _, hm, _, _ => by cases hm
 | _ :: _, [], _, _, hm, _, _ => by cases hm
 | q :: qs, o :: l, listed, a, hm, hB, h => by
   simp only [List.map_cons, List.cons.injEq] at hm
   simp only [Region.firstB, Bool.and_eq_true] at hB
   obtain ⟨v, hy, hK⟩ := h
   exact wpAnyK_first hm.1 (Region.noSelect_spec hsel) hQ (g + qs.length) listed a w hC (Region.free_spec hm.1 hB.1.2) (by simpa using hB.1.1) hy
     (wpAnyK_pure hsel hQ hC qs l _ _ hm.2 hB.2 hK)

theorem wp_regionK {id : Nat} {Q : Exit → Act → World → Prop} {a : Act} {w : World} {l : List Oper} (qs : List Nat) (lo : List Oper) (g : Nat) (hlo : qs.map (fun i => l.toArray[i]?) = lo.map some) (hg : g + qs.length = l.length) (hm : P.follows .mixedOrders = true)
  (hsel : Region.noSelect l.toArray = true) (hB : Region.firstB .any l.toArray qs (Array.replicate l.length false) = true) (hC : C { w with drawn := w.drawn + 1 })
  (h : wpPureK P l.toArray C (fun a' => wpAnyC P .any l.toArray C (NoPanic Q) g (listAll (Array.replicate l.length false) qs) a' { w with drawn := w.drawn + 1 }) lo a) : (Code.region id l.toArray true).wp P Q a w := by
 refine wp_region_noPanic (wp_region_any hm ?_)
 have := wpAnyK_pure (md := .any) hsel (fun c a w h => h) hC qs lo _ a hlo hB h
 rw [hg] at this
 simpa using wpAny_of_C _ _ _ _ this
theorem wpOp_of_list {i : Nat} {o : Oper} (hi : ops[i]? = some o) {K : Act → World → Prop} {a : Act} {w : World}
  (h : wpList P ops (fun e a' w' => match e with | .normal => K a' w' | e => NoPanic Q e a' w') [o] a w) : wpOp P ops (NoPanic Q) i K a w := by
 unfold wpOp
 simp only [hi]
 unfold wpList at h
 split at h
 ·next hw =>
  rw [if_pos hw]
  rcases h with h | ⟨h1, h2⟩
  ·left; exact h
  ·right; exact ⟨h1, h2⟩
 ·next hw =>
  rw [if_neg hw]
  exact h
end
section
variable {P : Program} {ops : Array Oper} {w : World} {a : Act} {ty : TypeId} {p : String} {af : Array Edge} {g : Option (Nat × Bool)} {d : Tmp}
theorem yieldsK_val {C : World → Prop} {o : Oper} {v : Value} (hg : Region.wanted o (yielded ops a.tmps) = true) (h : ∀ w, (execOp a.eval o).run P w = .ok (.value v) w) : YieldsK P ops C o v a := .inl ⟨hg, fun w _ => h w⟩
end
end Go.Proofs.YtndmeaoidihikaaGreatDoor

namespace Go.Proofs.YtndmeaoidihikaaGreatDoor

end Go.Proofs.YtndmeaoidihikaaGreatDoor

namespace Go.Proofs.YtndmeaoidihikaaGreatDoor
open Go.RowKit
set_option maxHeartbeats 1000000
set_option maxRecDepth 100000

structure Stand (l : List Int) : Prop where
 lo : 4 ≤ l.length
 hi : l.length ≤ 64
 rng : ∀ x ∈ l, 0 ≤ x ∧ x ≤ 64
 ne : ∀ i j : Int, 0 ≤ i → i < l.length → 0 ≤ j → j < l.length → atD 0 l i ≠ 0 → atD 0 l i = atD 0 l j → i = j

def sw (f t j : Int) : Int := if j = f then t else if j = t then f else j
theorem sw_rng {n f t j : Int} (hf : 0 ≤ f ∧ f < n) (ht : 0 ≤ t ∧ t < n) (hj : 0 ≤ j ∧ j < n) : 0 ≤ sw f t j ∧ sw f t j < n := by
 unfold sw; split
 ·exact ht
 ·split
  ·exact hf
  ·exact hj
theorem sw_sw (f t j : Int) : sw f t (sw f t j) = j := by
 unfold sw
 by_cases h1 : j = f
 ·subst h1; by_cases h2 : t = j <;> simp [h2]
 ·by_cases h2 : j = t
  ·subst h2; simp [h1]
  ·simp [h1, h2]
theorem legalN_iff {l : List Int} {f t : Int} : legalN l f t = 0 ↔ (0 ≤ f ∧ f < l.length) ∧ (0 ≤ t ∧ t < l.length) ∧ atD 0 l f ≠ 0 ∧ atD 0 l t = 0 := by
 unfold legalN inB
 by_cases h1 : (decide (0 ≤ f) && decide (f < (l.length : Int)) && (decide (0 ≤ t) && decide (t < (l.length : Int)))) = true
 ·rw [if_pos h1]
  simp only [Bool.and_eq_true, decide_eq_true_eq] at h1
  by_cases h2 : atD 0 l f = 0
  ·rw [if_neg (by simp [h2])]; constructor
   ·intro h; omega
   ·intro h; exact absurd h2 h.2.2.1
  ·rw [if_pos (by simpa using h2)]
   by_cases h3 : atD 0 l t = 0
   ·rw [if_pos (by simp [h3])]; exact ⟨fun _ => ⟨h1.1, h1.2, h2, h3⟩, fun _ => rfl⟩
   ·rw [if_neg (by simpa using h3)]; constructor
    ·intro h; omega
    ·intro h; exact absurd h.2.2.2 h3
 ·rw [if_neg h1]
  simp only [Bool.and_eq_true, decide_eq_true_eq] at h1
  constructor
  ·intro h; omega
  ·intro h; exact absurd ⟨h.1, h.2.1⟩ h1
theorem nextL_length (l : List Int) (f t : Int) : (nextL l f t).length = l.length := by simp [nextL]
theorem nextL_at {l : List Int} {f t : Int} (h : legalN l f t = 0) {j : Int} (hj : 0 ≤ j) : atD 0 (nextL l f t) j = atD 0 l (sw f t j) := by
 obtain ⟨hf, ht, hf0, ht0⟩ := legalN_iff.1 h
 unfold nextL sw
 rw [atD_set hf.1 (by simp; exact hf.2) hj, atD_set ht.1 ht.2 hj]
 by_cases h1 : j = f
 ·rw [if_pos h1, if_pos h1, ht0]
 ·rw [if_neg h1, if_neg h1]; split <;> rfl

/-- all moves are legal, one after the other. -/
def okAll : List Int → List (Int × Int) → Prop
 | _, [] => True
 | s, m :: r => legalN s m.1 m.2 = 0 ∧ okAll (nextL s m.1 m.2) r
def runL : List Int → List (Int × Int) → List Int
 | s, [] => s
 | s, m :: r => runL (nextL s m.1 m.2) r
/-- from where the thread of a slot comes. -/
def mvT : List (Int × Int) → Int → Int
 | [], j => j
 | m :: r, j => sw m.1 m.2 (mvT r j)
theorem runL_len : ∀ (ms : List (Int × Int)) (s : List Int), (runL s ms).length = s.length
 | [], s => rfl
 | m :: r, s => by rw [runL, runL_len r, nextL_length]
/-- the same slots are free. -/
def free2 (s x : List Int) : Prop := x.length = s.length ∧ ∀ j : Int, 0 ≤ j → j < s.length → (atD 0 x j = 0 ↔ atD 0 s j = 0)
theorem free2_legal {s x : List Int} (h : free2 s x) {f t : Int} (hl : legalN s f t = 0) : legalN x f t = 0 := by
 obtain ⟨hf, ht, hf0, ht0⟩ := legalN_iff.1 hl
 refine legalN_iff.2 ⟨by rw [h.1]; exact hf, by rw [h.1]; exact ht, ?_, ?_⟩
 ·intro e; exact hf0 ((h.2 f hf.1 hf.2).1 e)
 ·exact (h.2 t ht.1 ht.2).2 ht0
theorem free2_next {s x : List Int} (h : free2 s x) {f t : Int} (hl : legalN s f t = 0) : free2 (nextL s f t) (nextL x f t) := by
 obtain ⟨hf, ht, _, _⟩ := legalN_iff.1 hl
 refine ⟨by rw [nextL_length, nextL_length, h.1], fun j j0 j1 => ?_⟩
 rw [nextL_length] at j1
 rw [nextL_at hl j0, nextL_at (free2_legal h hl) j0]
 obtain ⟨a, b⟩ := sw_rng hf ht ⟨j0, j1⟩
 exact h.2 _ a b
theorem free2_ok : ∀ (ms : List (Int × Int)) (s x : List Int), free2 s x → okAll s ms → okAll x ms
 | [], _, _, _, _ => trivial
 | m :: r, s, x, h, ho => ⟨free2_legal h ho.1, free2_ok r _ _ (free2_next h ho.1) ho.2⟩
theorem mvT_rng : ∀ (ms : List (Int × Int)) (s : List Int), okAll s ms → ∀ j : Int, 0 ≤ j → j < s.length → 0 ≤ mvT ms j ∧ mvT ms j < s.length
 | [], _, _, j, j0, j1 => ⟨j0, j1⟩
 | m :: r, s, h, j, j0, j1 => by
   obtain ⟨hf, ht, _, _⟩ := legalN_iff.1 h.1
   have := mvT_rng r (nextL s m.1 m.2) h.2 j j0 (by rw [nextL_length]; exact j1)
   rw [nextL_length] at this
   exact sw_rng hf ht this
theorem mvT_inj : ∀ (ms : List (Int × Int)) (i j : Int), mvT ms i = mvT ms j → i = j
 | [], _, _, h => h
 | m :: r, i, j, h => by
   rw [mvT, mvT] at h
   have := congrArg (sw m.1 m.2) h
   rw [sw_sw, sw_sw] at this
   exact mvT_inj r i j this
theorem runL_at : ∀ (ms : List (Int × Int)) (s : List Int), okAll s ms → ∀ j : Int, 0 ≤ j → j < s.length → atD 0 (runL s ms) j = atD 0 s (mvT ms j)
 | [], _, _, _, _, _ => rfl
 | m :: r, s, h, j, j0, j1 => by
   have hr := mvT_rng r (nextL s m.1 m.2) h.2 j j0 (by rw [nextL_length]; exact j1)
   rw [runL, runL_at r _ h.2 j j0 (by rw [nextL_length]; exact j1), nextL_at h.1 hr.1, mvT]
theorem stand_run {s : List Int} {ms : List (Int × Int)} (hs : Stand s) (h : okAll s ms) : Stand (runL s ms) := by
 refine ⟨by rw [runL_len]; exact hs.lo, by rw [runL_len]; exact hs.hi, ?_, ?_⟩
 ·intro x hx
  obtain ⟨i, hi, rfl⟩ := List.mem_iff_getElem.1 hx
  have e : (runL s ms)[i] = atD 0 (runL s ms) (i : Int) := by simp [atD, hi]
  rw [runL_len] at hi
  have hr := mvT_rng ms s h i (by omega) (by omega)
  rw [e, runL_at ms s h i (by omega) (by omega)]
  exact hs.rng _ (atD_memZ hr.1 hr.2)
 ·intro i j i0 i1 j0 j1 hne e
  rw [runL_len] at i1 j1
  rw [runL_at ms s h i i0 i1] at hne e
  rw [runL_at ms s h j j0 j1] at e
  have hi := mvT_rng ms s h i i0 i1
  have hj := mvT_rng ms s h j j0 j1
  exact mvT_inj ms i j (hs.ne _ _ hi.1 hi.2 hj.1 hj.2 hne e)

/-- what a round without an error does: the permutation leads each thread to its place. -/
structure RoundP (s : List Int) (ms : List (Int × Int)) (p : List Int) : Prop where
 st : Stand s
 ok : okAll s ms
 len : p.length = s.length
 sh : ∀ j : Int, 0 ≤ j → j < s.length → (atD 0 s j = 0 ↔ atD 0 (runL s ms) j = 0)
 fr : ∀ i : Int, 0 ≤ i → i < s.length → atD 0 s i = 0 → atD 0 p i = i
 rng : ∀ i : Int, 0 ≤ i → i < s.length → 0 ≤ atD 0 p i ∧ atD 0 p i < s.length
 mv : ∀ i : Int, 0 ≤ i → i < s.length → atD 0 s i ≠ 0 → mvT ms (atD 0 p i) = i
section
variable {s : List Int} {ms : List (Int × Int)} {p : List Int}
theorem RoundP.inj (h : RoundP s ms p) : ∀ i j : Int, 0 ≤ i → i < s.length → 0 ≤ j → j < s.length → atD 0 p i = atD 0 p j → i = j := by
 intro i j i0 i1 j0 j1 e
 have key : ∀ i j : Int, 0 ≤ i → i < s.length → 0 ≤ j → j < s.length → atD 0 p i = atD 0 p j → atD 0 s i = 0 → atD 0 s j ≠ 0 → False := by
  intro i j i0 i1 j0 j1 e hz hn
  rw [h.fr i i0 i1 hz] at e
  have hm := h.mv j j0 j1 hn
  rw [← e] at hm
  have := (h.sh i i0 i1).1 hz
  rw [runL_at ms s h.ok i i0 i1, hm] at this
  exact hn this
 by_cases a : atD 0 s i = 0
 ·by_cases b : atD 0 s j = 0
  ·rw [h.fr i i0 i1 a, h.fr j j0 j1 b] at e; exact e
  ·exact (key i j i0 i1 j0 j1 e a b).elim
 ·by_cases b : atD 0 s j = 0
  ·exact (key j i j0 j1 i0 i1 e.symm b a).elim
  ·rw [← h.mv i i0 i1 a, ← h.mv j j0 j1 b, e]
theorem RoundP.isP (h : RoundP s ms p) : IsP p :=
 ⟨fun x a b => by have := h.rng x a (by rw [← h.len]; exact b); rw [h.len]; exact this, fun x y a b c d e => h.inj x y a (by rw [← h.len]; exact b) c (by rw [← h.len]; exact d) e⟩

/-- one more round. -/
theorem RoundP.next (h : RoundP s ms p) {x : List Int} (hx : free2 s x) (hsx : Stand x) : okAll x ms ∧ free2 s (runL x ms) ∧ Stand (runL x ms) ∧ ∀ i : Int, 0 ≤ i → i < s.length → atD 0 (runL x ms) (atD 0 p i) = atD 0 x i := by
 have ho := free2_ok ms s x hx h.ok
 have hl := hx.1
 have hat : ∀ j : Int, 0 ≤ j → j < s.length → atD 0 (runL x ms) j = atD 0 x (mvT ms j) := fun j j0 j1 => runL_at ms x ho j j0 (by rw [hl]; exact j1)
 have hz : ∀ j : Int, 0 ≤ j → j < s.length → (atD 0 (runL x ms) j = 0 ↔ atD 0 s j = 0) := by
  intro j j0 j1
  have hr := mvT_rng ms s h.ok j j0 j1
  rw [hat j j0 j1, hx.2 _ hr.1 hr.2, h.sh j j0 j1, runL_at ms s h.ok j j0 j1]
 refine ⟨ho, ⟨by rw [runL_len, hl], hz⟩, stand_run hsx ho, ?_⟩
 intro i i0 i1
 obtain ⟨a, b⟩ := h.rng i i0 i1
 by_cases hn : atD 0 s i = 0
 ·rw [h.fr i i0 i1 hn]
  have h1 := (hz i i0 i1).2 hn
  have h2 := (hx.2 i i0 i1).2 hn
  rw [h1, h2]
 ·rw [hat _ a b, h.mv i i0 i1 hn]

def nowL (s : List Int) (ms : List (Int × Int)) : Nat → List Int
 | 0 => s
 | n + 1 => runL (nowL s ms n) ms
theorem RoundP.now (h : RoundP s ms p) : ∀ n, free2 s (nowL s ms n) ∧ Stand (nowL s ms n) ∧ ∀ i : Int, 0 ≤ i → i < s.length → atD 0 (nowL s ms n) (itP p i n) = atD 0 s i
 | 0 => ⟨⟨rfl, fun _ _ _ => Iff.rfl⟩, h.st, fun _ _ _ => rfl⟩
 | n + 1 => by
   obtain ⟨a, b, c⟩ := h.now n
   obtain ⟨_, d, e, f⟩ := h.next a b
   refine ⟨d, e, fun i i0 i1 => ?_⟩
   have hr := itP_rng h.isP i0 (by rw [h.len]; exact i1) n
   rw [h.len] at hr
   rw [nowL, itP, f _ hr.1 hr.2, c i i0 i1]
theorem RoundP.back (h : RoundP s ms p) (n : Nat) : nowL s ms n = s ↔ ∀ i : Int, 0 ≤ i → i < s.length → itP p i n = i := by
 obtain ⟨a, b, c⟩ := h.now n
 have hid : ∀ i : Int, 0 ≤ i → i < s.length → atD 0 s i = 0 → ∀ n, itP p i n = i := by
  intro i i0 i1 hz n
  induction n with
  | zero => rfl
  | succ n ih => rw [itP, ih]; exact h.fr i i0 i1 hz
 constructor
 ·intro e i i0 i1
  by_cases hz : atD 0 s i = 0
  ·exact hid i i0 i1 hz n
  ·have := c i i0 i1
   rw [e] at this
   have hr := itP_rng h.isP i0 (by rw [h.len]; exact i1) n
   rw [h.len] at hr
   exact (h.st.ne i _ i0 i1 hr.1 hr.2 hz this.symm).symm
 ·intro e
  refine ext_atD a.1 (fun j j0 j1 => ?_)
  rw [a.1] at j1
  have := c j j0 j1
  rwa [e j j0 j1] at this
end

theorem itP_mul {p : List Int} {i : Int} {d : Nat} (h : itP p i d = i) : ∀ q : Nat, itP p i (q * d) = i
 | 0 => by simp [itP]
 | q + 1 => by rw [Nat.succ_mul, itP_add, h, itP_mul h q]
end Go.Proofs.YtndmeaoidihikaaGreatDoor

namespace Go.Proofs.YtndmeaoidihikaaGreatDoor
open Go.RowKit
set_option maxHeartbeats 1000000
set_option maxRecDepth 100000

theorem permGo_ok (n : Nat) : ∀ (r seen : List Int), (∀ x ∈ r, 0 ≤ x ∧ x < n ∧ x ∉ seen) → r.Nodup → permGo n seen r = 0
 | [], _, _, _ => rfl
 | x :: r, seen, h, hn => by
   obtain ⟨h1, h2⟩ := List.nodup_cons.1 hn
   obtain ⟨a, b, c⟩ := h x (by simp)
   rw [permGo, if_neg (by rintro (d | d | d) <;> first | exact c d | omega)]
   refine permGo_ok n r _ (fun y hy => ?_) h2
   obtain ⟨d, e, f⟩ := h y (by simp [hy])
   refine ⟨d, e, fun g => ?_⟩
   rcases List.mem_append.1 g with g | g
   · exact f g
   · simp only [List.mem_singleton] at g
     subst g; exact h1 hy
theorem isP_mem {p : List Int} (hp : IsP p) : ∀ x ∈ p, 0 ≤ x ∧ x < p.length := by
 intro x hx
 obtain ⟨i, hi, rfl⟩ := List.mem_iff_getElem.1 hx
 have := hp.rng i (by omega) (by omega)
 simpa [atD, hi] using this
theorem isP_nodup {p : List Int} (hp : IsP p) : p.Nodup := by
 rw [List.Nodup, List.pairwise_iff_getElem]
 intro i j hi hj hij e
 have := hp.inj i j (by omega) (by omega) (by omega) (by omega) (by simpa [atD, hi, hj] using e)
 omega
theorem permE_ok {p : List Int} (hp : IsP p) (h : p.length ≤ 256) : permE p = 0 := by
 unfold permE
 rw [if_neg (by omega)]
 exact permGo_ok _ _ _ (fun x hx => ⟨(isP_mem hp x hx).1, (isP_mem hp x hx).2, by simp⟩) (isP_nodup hp)
/-- the first j places of a cycle. -/
def orbK (p : List Int) (i : Int) (j : Nat) : List Int := (List.range j).map (itP p i)
theorem orbK_succ (p : List Int) (i : Int) (j : Nat) : orbK p i (j + 1) = orbK p i j ++ [itP p i j] := by simp [orbK, List.range_succ]
theorem orbK_new {p : List Int} (hp : IsP p) {i : Int} (h0 : 0 ≤ i) (h1 : i < p.length) {d : Nat} (h : Ord p i d) {j : Nat} (hj : j < d) : itP p i j ∉ orbK p i j := by
 intro hm
 obtain ⟨a, ha, e⟩ := List.mem_map.1 hm
 have ha := List.mem_range.1 ha
 have e2 : itP p i j = itP p (itP p i (j - a)) a := by rw [← itP_add]; congr 1; omega
 rw [e2] at e
 have rd := itP_rng hp h0 h1 (j - a)
 exact h.min (j - a) (by omega) (by omega) (itP_inj hp h0 h1 rd.1 rd.2 a e).symm
theorem orbK_out {p : List Int} (hp : IsP p) {k : Nat} (hk : k < p.length) (hn : (k : Int) ∉ (cycK p k).flatten) {d : Nat} (h : Ord p k d) {j : Nat} (hj : j ≤ d) : itP p k j ∉ (cycK p k).flatten := by
 intro hm
 obtain ⟨_, _, h3⟩ := cycK_ok hp k (by omega)
 have hcl : ∀ m (x : Int), x ∈ (cycK p k).flatten → itP p x m ∈ (cycK p k).flatten := by
  intro m
  induction m with
  | zero => intro x hx; exact hx
  | succ m ih => intro x hx; exact h3 _ (ih x hx)
 have := hcl (d - j) _ hm
 rw [← itP_add, show d - j + j = d by omega, h.back] at this
 exact hn this
end Go.Proofs.YtndmeaoidihikaaGreatDoor

namespace Go.Proofs.YtndmeaoidihikaaGreatDoor
set_option maxRecDepth 100000

/-- a machine. -/
structure MacV where
 ring : Bool
 gears : Int
 turn : Int
 sw : List Int
def sharedM (m : MacV) (p : Int) : Bool := (decide (0 ≤ p) && decide (p < m.gears)) && (m.ring || decide (0 < p))
def swGo (m : MacV) : Option Int → List Int → Int
 | _, [] => 0
 | o, s :: r => if sharedM m s = false then 10 else match o with
   | none => swGo m (some s) r
   | some b => if s ≤ b then 11 else swGo m (some s) r
/-- the error of a machine. -/
def macE (m : MacV) : Int :=
 if m.gears < 1 ∨ 16 < m.gears then 3 else if m.ring = true ∧ m.gears % 2 = 1 then 17 else if m.turn ≠ 1 ∧ m.turn ≠ -1 then 3 else if m.gears < m.sw.length then 5 else swGo m none m.sw
structure MacOk (m : MacV) : Prop where
 lo : 1 ≤ m.gears
 hi : m.gears ≤ 16
 even : m.ring = true → m.gears % 2 = 0
 turn : m.turn = 1 ∨ m.turn = -1
 many : m.sw.length ≤ m.gears
theorem macE_zero {m : MacV} (h : macE m = 0) : MacOk m ∧ swGo m none m.sw = 0 := by
 unfold macE at h
 split at h
 ·omega
 ·rename_i h1
  split at h
  ·omega
  ·rename_i h2
   split at h
   ·omega
   ·rename_i h3
    split at h
    ·omega
    ·rename_i h4
     refine ⟨⟨by omega, by omega, fun e => ?_, by omega, by omega⟩, h⟩
     have : ¬ m.gears % 2 = 1 := fun e2 => h2 ⟨e, e2⟩
     omega
def fwdM (m : MacV) (g : Int) : Bool := (m.turn == 1) == (g % 2 == 0)
/-- the place of a slot, or -1. -/
def placeM (m : MacV) (s : Int) : Int :=
 if s % 4 = 0 then s / 4 else if s % 4 = 2 then (if m.ring = true ∧ s / 4 + 1 = m.gears then 0 else s / 4 + 1) else -1
/-- the gear before a place. -/
def befM (m : MacV) (p : Int) : Int := if p = 0 then m.gears - 1 else p - 1
def goesM (m : MacV) (s : Int) : Bool := decide (0 ≤ placeM m s) && sharedM m (placeM m s) && !m.sw.contains (placeM m s)
def overM (m : MacV) (s : Int) : Int := if goesM m s then 4 * befM m (placeM m s) + 2 + 4 * placeM m s - s else s
def rotM (m : MacV) (s : Int) : Int := 4 * (s / 4) + (s % 4 + (if fwdM m (s / 4) then 1 else 3)) % 4
def nextM (m : MacV) (s : Int) : Int := overM m (rotM m s)

theorem place_prog {m : MacV} {s : Int} (h0 : 0 ≤ s) (h1 : s < 4 * m.gears) : (s / 4 + 1) % (m.gears + (if m.ring then 0 else 1)) = if m.ring = true ∧ s / 4 + 1 = m.gears then 0 else s / 4 + 1 := by
 cases hr : m.ring
 ·simp only [Bool.false_eq_true, if_false, false_and]
  exact Int.emod_eq_of_lt (by omega) (by omega)
 ·simp only [if_true, true_and, Int.add_zero]
  split
  ·rename_i h; rw [h]; exact Int.emod_self
  ·exact Int.emod_eq_of_lt (by omega) (by omega)
theorem bef_prog {m : MacV} {p : Int} (h0 : 0 ≤ p) (h1 : p < m.gears) : (p + m.gears - 1) % m.gears = befM m p := by
 unfold befM
 split
 ·rename_i h; subst h; rw [Int.zero_add]; exact Int.emod_eq_of_lt (by omega) (by omega)
 ·rw [show p + m.gears - 1 = (p - 1) + m.gears by omega, Int.add_emod_right]
  exact Int.emod_eq_of_lt (by omega) (by omega)
theorem shared_iff {m : MacV} {p : Int} : sharedM m p = true ↔ 0 ≤ p ∧ p < m.gears ∧ (m.ring = true ∨ 0 < p) := by
 unfold sharedM
 simp only [Bool.and_eq_true, Bool.or_eq_true, decide_eq_true_eq]
 exact and_assoc
/-- the two slots of a shared place. -/
theorem over_cases {m : MacV} {s : Int} (h0 : 0 ≤ s) (h1 : s < 4 * m.gears) : (goesM m s = false ∧ overM m s = s) ∨
  (goesM m s = true ∧ 0 ≤ overM m s ∧ overM m s < 4 * m.gears ∧ placeM m (overM m s) = placeM m s ∧ overM m s ≠ s ∧ overM m s = 4 * befM m (placeM m s) + 2 + 4 * placeM m s - s) := by
 cases hg : goesM m s
 ·exact .inl ⟨rfl, by unfold overM; rw [hg]; rfl⟩
 ·right
  have e : overM m s = 4 * befM m (placeM m s) + 2 + 4 * placeM m s - s := by unfold overM; rw [if_pos hg]
  unfold goesM at hg
  simp only [Bool.and_eq_true, decide_eq_true_eq] at hg
  obtain ⟨⟨hp0, hsh⟩, _⟩ := hg
  obtain ⟨_, hp1, hp2⟩ := shared_iff.1 hsh
  refine ⟨rfl, ?_⟩
  obtain ⟨p, hp⟩ : ∃ p, p = placeM m s := ⟨_, rfl⟩
  rw [← hp] at e hp0 hp1 hp2 ⊢
  rw [e]
  unfold placeM at hp ⊢
  unfold befM
  cases hr : m.ring
  ·simp only [hr, Bool.false_eq_true, false_and, if_false, false_or] at hp hp2 ⊢
   rw [if_neg (by omega)]
   split at hp
   ·subst hp
    refine ⟨by omega, by omega, ?_, by omega, trivial⟩
    rw [if_neg (by omega), if_pos (by omega)]; omega
   ·split at hp
    ·subst hp
     refine ⟨by omega, by omega, ?_, by omega, trivial⟩
     rw [if_pos (by omega)]; omega
    ·omega
  ·simp only [hr, true_and, true_or] at hp hp2 ⊢
   split at hp
   ·by_cases hz : p = 0
    ·rw [if_pos hz]
     refine ⟨by omega, by omega, ?_, by omega, trivial⟩
     rw [if_neg (by omega), if_pos (by omega), if_pos (by omega)]; omega
    ·rw [if_neg hz]
     refine ⟨by omega, by omega, ?_, by omega, trivial⟩
     rw [if_neg (by omega), if_pos (by omega), if_neg (by omega)]; omega
   ·split at hp
    ·split at hp
     ·subst hp
      rw [if_pos rfl]
      refine ⟨by omega, by omega, ?_, by omega, trivial⟩
      rw [if_pos (by omega)]; omega
     ·rw [if_neg (by omega)]
      refine ⟨by omega, by omega, ?_, by omega, trivial⟩
      rw [if_pos (by omega)]; omega
    ·omega
theorem over_rng {m : MacV} {s : Int} (h0 : 0 ≤ s) (h1 : s < 4 * m.gears) : 0 ≤ overM m s ∧ overM m s < 4 * m.gears := by
 rcases over_cases h0 h1 with ⟨_, e⟩ | ⟨_, a, b, _⟩
 ·rw [e]; exact ⟨h0, h1⟩
 ·exact ⟨a, b⟩
theorem over_over {m : MacV} {s : Int} (h0 : 0 ≤ s) (h1 : s < 4 * m.gears) : overM m (overM m s) = s := by
 rcases over_cases h0 h1 with ⟨_, e⟩ | ⟨hg, a, b, hp, _, e⟩
 ·rw [e, e]
 ·have hg2 : goesM m (overM m s) = true := by unfold goesM at hg ⊢; rw [hp]; exact hg
  rcases over_cases a b with ⟨hg3, _⟩ | ⟨_, _, _, _, _, e2⟩
  ·rw [hg2] at hg3; cases hg3
  ·rw [e2, hp, e]; omega
theorem rot_rng {m : MacV} {s : Int} (h0 : 0 ≤ s) (h1 : s < 4 * m.gears) : 0 ≤ rotM m s ∧ rotM m s < 4 * m.gears ∧ rotM m s / 4 = s / 4 ∧ rotM m s % 4 = (s % 4 + (if fwdM m (s / 4) then 1 else 3)) % 4 := by
 unfold rotM
 split <;> omega
theorem rot_inj {m : MacV} {s t : Int} (h0 : 0 ≤ s) (h1 : s < 4 * m.gears) (k0 : 0 ≤ t) (k1 : t < 4 * m.gears) (e : rotM m s = rotM m t) : s = t := by
 obtain ⟨_, _, a, b⟩ := rot_rng h0 h1
 obtain ⟨_, _, c, d⟩ := rot_rng k0 k1
 rw [e] at a b
 have hq : s / 4 = t / 4 := by omega
 rw [hq] at b
 split at b
 ·rename_i hf; rw [if_pos hf] at d; omega
 ·rename_i hf; rw [if_neg hf] at d; omega
theorem next_rng {m : MacV} {s : Int} (h0 : 0 ≤ s) (h1 : s < 4 * m.gears) : 0 ≤ nextM m s ∧ nextM m s < 4 * m.gears := by
 obtain ⟨a, b, _⟩ := rot_rng h0 h1
 exact over_rng a b
theorem next_inj {m : MacV} {s t : Int} (h0 : 0 ≤ s) (h1 : s < 4 * m.gears) (k0 : 0 ≤ t) (k1 : t < 4 * m.gears) (e : nextM m s = nextM m t) : s = t := by
 obtain ⟨a, b, _⟩ := rot_rng h0 h1
 obtain ⟨c, d, _⟩ := rot_rng k0 k1
 have := congrArg (overM m) e
 unfold nextM at this
 rw [over_over a b, over_over c d] at this
 exact rot_inj h0 h1 k0 k1 this
/-- the permutation of a step. -/
def permM (m : MacV) : List Int := (List.range (4 * m.gears).toNat).map fun (i : Nat) => nextM m i
theorem permM_len (m : MacV) : (permM m).length = (4 * m.gears).toNat := by simp [permM]
theorem permM_at {m : MacV} {s : Int} (h0 : 0 ≤ s) (h1 : s < 4 * m.gears) : atD 0 (permM m) s = nextM m s := by
 unfold permM atD
 have hs : s.toNat < (4 * m.gears).toNat := by omega
 rw [List.getD_eq_getElem?_getD, List.getElem?_map, List.getElem?_range hs]
 simp [Int.toNat_of_nonneg h0]
theorem permM_isP (m : MacV) : IsP (permM m) := by
 refine ⟨fun x h0 h1 => ?_, fun x y x0 x1 y0 y1 e => ?_⟩
 ·rw [permM_len] at h1
  rw [permM_at h0 (by omega), permM_len]
  have := next_rng (m := m) h0 (by omega)
  omega
 ·rw [permM_len] at x1 y1
  rw [permM_at x0 (by omega), permM_at y0 (by omega)] at e
  exact next_inj x0 (by omega) y0 (by omega) e
end Go.Proofs.YtndmeaoidihikaaGreatDoor

namespace Go.Proofs.YtndmeaoidihikaaGreatDoor
set_option maxRecDepth 100000

/-- where a carrier is after some steps. -/
def itM (m : MacV) (s : Int) (n : Nat) : Int := itP (permM m) s n
theorem itM_rng {m : MacV} {s : Int} (h0 : 0 ≤ s) (h1 : s < 4 * m.gears) (n : Nat) : 0 ≤ itM m s n ∧ itM m s n < 4 * m.gears := by
 have := itP_rng (permM_isP m) h0 (by rw [permM_len]; omega) n
 rw [permM_len] at this
 unfold itM
 omega
theorem itM_succ {m : MacV} {s : Int} (h0 : 0 ≤ s) (h1 : s < 4 * m.gears) (n : Nat) : itM m s (n + 1) = nextM m (itM m s n) := by
 have h := itM_rng h0 h1 n
 unfold itM at h ⊢
 rw [itP, permM_at h.1 h.2]
theorem ordM {m : MacV} {s : Int} (h0 : 0 ≤ s) (h1 : s < 4 * m.gears) : ∃ d, Ord (permM m) s d := ord_ex (permM_isP m) h0 (by rw [permM_len]; omega)
theorem itM_mod {m : MacV} {s : Int} {d : Nat} (h : Ord (permM m) s d) (n : Nat) : itM m s (n % d) = itM m s n := by
 have e : n = n % d + n / d * d := by have := Nat.mod_add_div n d; rw [Nat.mul_comm] at this; omega
 unfold itM
 conv => rhs; rw [e, itP_add, itP_mul h.back]
theorem least_ex {P : Nat → Prop} (h : ∃ n, P n) : ∃ n, P n ∧ ∀ k, k < n → ¬ P k := by
 obtain ⟨n, hn⟩ := h
 induction n using Nat.strongRecOn with
 | _ n ih =>
  by_cases hx : ∃ k, k < n ∧ P k
  ·obtain ⟨k, hk, hp⟩ := hx; exact ih k hk hp
  ·exact ⟨n, hn, fun k hk hp => hx ⟨k, hk, hp⟩⟩
/-- two carriers are in both slots of a shared place. -/
def hitM (m : MacV) (x y : Int) : Bool := (decide (0 ≤ placeM m x) && sharedM m (placeM m x)) && decide (placeM m x = placeM m y)
/-- what a first meeting is. -/
def MeetR (m : MacV) (a b : Int) : Option (Nat × Int) → Prop
 | some (n, p) => hitM m (itM m a n) (itM m b n) = true ∧ p = placeM m (itM m a n) ∧ ∀ k, k < n → hitM m (itM m a k) (itM m b k) = false
 | none => ∀ k, hitM m (itM m a k) (itM m b k) = false
theorem meet_ex (m : MacV) (a b : Int) : ∃ r, MeetR m a b r := by
 by_cases h : ∃ n, hitM m (itM m a n) (itM m b n) = true
 ·obtain ⟨n, hn, hk⟩ := least_ex h
  exact ⟨some (n, _), hn, rfl, fun k h2 => by simpa using hk k h2⟩
 ·exact ⟨none, fun k => by cases e : hitM m (itM m a k) (itM m b k) with | false => rfl | true => exact absurd ⟨k, e⟩ h⟩
noncomputable def meetM (m : MacV) (a b : Int) : Option (Nat × Int) := Classical.choose (meet_ex m a b)
theorem meetM_spec (m : MacV) (a b : Int) : MeetR m a b (meetM m a b) := Classical.choose_spec (meet_ex m a b)
theorem MeetR.eq {m : MacV} {a b : Int} {r s : Option (Nat × Int)} (h : MeetR m a b r) (k : MeetR m a b s) : r = s := by
 match r, s, h, k with
 | none, none, _, _ => rfl
 | none, some (n, p), h, k => exact absurd (h n) (by rw [k.1]; decide)
 | some (n, p), none, h, k => exact absurd (k n) (by rw [h.1]; decide)
 | some (n, p), some (n', p'), h, k =>
  obtain ⟨h1, h2, h3⟩ := h
  obtain ⟨k1, k2, k3⟩ := k
  have : n = n' := by
   rcases Nat.lt_trichotomy n n' with hl | hl | hl
   ·exact absurd (k3 n hl) (by rw [h1]; decide)
   ·exact hl
   ·exact absurd (h3 n' hl) (by rw [k1]; decide)
  subst this
  rw [h2, k2]
/-- where both are again, without a meeting before: they never meet. -/
theorem meet_none {m : MacV} {a b : Int} {L : Nat} (hL : 0 < L) (ha : itM m a L = a) (hb : itM m b L = b) (h : ∀ k, k < L → hitM m (itM m a k) (itM m b k) = false) : MeetR m a b none := by
 intro k
 have e : k = k % L + k / L * L := by have := Nat.mod_add_div k L; rw [Nat.mul_comm] at this; omega
 have key : ∀ s, itM m s L = s → itM m s k = itM m s (k % L) := by
  intro s hs
  unfold itM at hs ⊢
  conv => lhs; rw [e, itP_add, itP_mul hs]
 rw [key a ha, key b hb]
 exact h _ (Nat.mod_lt _ hL)
/-- the meeting, reckoned; none where the fuel is too little. -/
def meetF (m : MacV) (a b : Int) : Nat → Nat → Int → Int → Option (Option (Nat × Int))
 | 0, _, _, _ => none
 | f + 1, n, x, y => if hitM m x y then some (some (n, placeM m x)) else if nextM m x = a ∧ nextM m y = b then some none else meetF m a b f (n + 1) (nextM m x) (nextM m y)
theorem meetF_go {m : MacV} {a b : Int} (a0 : 0 ≤ a) (a1 : a < 4 * m.gears) (b0 : 0 ≤ b) (b1 : b < 4 * m.gears) : ∀ (f n : Nat) (r : Option (Nat × Int)), (∀ k, k < n → hitM m (itM m a k) (itM m b k) = false) →
  meetF m a b f n (itM m a n) (itM m b n) = some r → MeetR m a b r
 | 0, n, r, _, h => by simp [meetF] at h
 | f + 1, n, r, hno, h => by
   rw [meetF] at h
   split at h
   · rename_i hh; cases h; exact ⟨hh, rfl, hno⟩
   · rename_i hh
     have hno2 : ∀ k, k < n + 1 → hitM m (itM m a k) (itM m b k) = false := fun k hk => by
       by_cases e : k = n
       · subst e; simpa using hh
       · exact hno k (by omega)
     rw [← itM_succ a0 a1, ← itM_succ b0 b1] at h
     split at h
     · rename_i hb
       cases h
       exact meet_none (Nat.succ_pos n) hb.1 hb.2 hno2
     · exact meetF_go a0 a1 b0 b1 f (n + 1) r hno2 h
theorem meetF_ok {m : MacV} {a b : Int} (a0 : 0 ≤ a) (a1 : a < 4 * m.gears) (b0 : 0 ≤ b) (b1 : b < 4 * m.gears) {f : Nat} {r : Option (Nat × Int)} (h : meetF m a b f 0 a b = some r) : meetM m a b = r :=
 (meetM_spec m a b).eq (meetF_go a0 a1 b0 b1 f 0 r (fun k hk => by omega) h)

def befo (v w : Nat × Int) : Bool := decide (v.1 < w.1) || (decide (v.1 = w.1) && decide (v.2 < w.2))
def bestS (b x : Option (Nat × Int)) : Option (Nat × Int) := match x with
 | none => b
 | some v => match b with | none => some v | some w => if befo v w then some v else some w
/-- the pairs that are gone through. -/
def pairsTo (l : List Int) (i : Nat) : List (Int × Int) := (List.range i).flatMap fun j => (l.take j).map fun b => (atD 0 l j, b)
noncomputable def firstTo (m : MacV) (ps : List (Int × Int)) : Option (Nat × Int) := ps.foldl (fun b p => bestS b (meetM m p.1 p.2)) none
noncomputable def firstM (m : MacV) (l : List Int) : Option (Nat × Int) := firstTo m (pairsTo l l.length)
theorem pairsTo_succ (l : List Int) (i : Nat) : pairsTo l (i + 1) = pairsTo l i ++ (l.take i).map fun b => (atD 0 l i, b) := by simp [pairsTo, List.range_succ]
theorem firstTo_snoc (m : MacV) (ps : List (Int × Int)) (p : Int × Int) : firstTo m (ps ++ [p]) = bestS (firstTo m ps) (meetM m p.1 p.2) := by simp [firstTo]
end Go.Proofs.YtndmeaoidihikaaGreatDoor

namespace Go.Proofs.YtndmeaoidihikaaGreatDoor
set_option maxRecDepth 100000

/-- the first index of a number, or none. -/
def idxO (l : List Int) (x : Int) : Option Int := if l.findIdx (· == x) < l.length then some (l.findIdx (· == x) : Int) else none
theorem idxO_some {l : List Int} {x i : Int} (h : idxO l x = some i) : 0 ≤ i ∧ i < l.length ∧ l[i.toNat]? = some x := by
 unfold idxO at h
 split at h
 ·rename_i hlt
  cases h
  refine ⟨by omega, by omega, ?_⟩
  have := List.findIdx_getElem (xs := l) (p := (· == x)) (w := hlt)
  simp at this
  simp [hlt, this]
 ·cases h
theorem idxO_eq {l : List Int} {x : Int} {k : Nat} (hk : k < l.length) (h : l[k]? = some x) (hno : ∀ j : Nat, j < k → l[j]? ≠ some x) : idxO l x = some (k : Int) := by
 have e : l.findIdx (· == x) = k := by
  rw [List.findIdx_eq hk]
  refine ⟨?_, fun j hj => ?_⟩
  ·rw [List.getElem?_eq_getElem hk] at h
   cases h; simp
  ·have h1 := hno j hj
   rw [List.getElem?_eq_getElem (by omega)] at h1
   simpa using h1
 unfold idxO
 rw [e, if_pos hk]

/-- the gears from left to right, their slots in their order. -/
def gearsL (m : MacV) : List Int := (List.range m.gears.toNat).map fun (g : Nat) => (g : Int)
def slotsG (m : MacV) (g : Int) : List Int := if fwdM m g then [4 * g, 4 * g + 1, 4 * g + 3, 4 * g + 2] else [4 * g, 4 * g + 3, 4 * g + 1, 4 * g + 2]
def slotG (m : MacV) (g : Int) : Nat → Int
 | 0 => 4 * g
 | 1 => if fwdM m g then 4 * g + 1 else 4 * g + 3
 | 2 => if fwdM m g then 4 * g + 3 else 4 * g + 1
 | _ => 4 * g + 2
theorem slotsG_eq (m : MacV) (g : Int) : slotsG m g = [slotG m g 0, slotG m g 1, slotG m g 2, slotG m g 3] := by
 unfold slotsG slotG
 split <;> simp [*]
theorem slotG_div (m : MacV) (g : Int) (i : Nat) : slotG m g i / 4 = g := by
 unfold slotG
 split
 ·omega
 ·split <;> omega
 ·split <;> omega
 ·omega
/-- the numbers of carriers from left to right. -/
def orderG (m : MacV) (l : List Int) (g : Int) : List Int := (slotsG m g).filterMap (idxO l)
def orderM (m : MacV) (l : List Int) : List Int := (gearsL m).flatMap (orderG m l)

structure CrM where
 gear : Int
 over : Int
 under : Int
 going : Int
deriving DecidableEq
def crossA (m : MacV) (l : List Int) (g : Int) (x y : Nat) : Option CrM := match idxO l (slotG m g x), idxO l (slotG m g y) with
 | some a, some b => some (if fwdM m g then ⟨g, b, a, a⟩ else ⟨g, a, b, a⟩)
 | _, _ => none
def pairsX : List (Nat × Nat) := [(1, 2), (0, 2), (1, 3)]
def crossG (m : MacV) (l : List Int) (g : Int) : List CrM := pairsX.filterMap fun p => crossA m l g p.1 p.2
def crossM (m : MacV) (l : List Int) : List CrM := (gearsL m).flatMap (crossG m l)

def swpL (r : List Int) (i : Nat) : List Int := (r.set i (r.getD (i + 1) 0)).set (i + 1) (r.getD i 0)
def idxZ (l : List Int) (x : Int) : Int := (idxO l x).getD (-1)
def letterC (r : List Int) (c : CrM) : Int := if c.over = c.going then idxZ r c.going + 1 else -(idxZ r c.going) - 1
def weaveC (st : List Int × List Int) (c : CrM) : List Int × List Int := (swpL st.1 (idxZ st.1 c.going).toNat, st.2 ++ [letterC st.1 c])
def weaveS (m : MacV) (st : List Int × List Int) (l : List Int) : List Int × List Int := (crossM m l).foldl weaveC st
def stepL (m : MacV) (l : List Int) : List Int := l.map (nextM m)
theorem swpL_at (A C : List Int) (a b : Int) : swpL (A ++ a :: b :: C) A.length = A ++ b :: a :: C := by
 unfold swpL
 have h1 : (A ++ a :: b :: C).getD (A.length + 1) 0 = b := by simp [List.getD_eq_getElem?_getD]
 have h2 : (A ++ a :: b :: C).getD A.length 0 = a := by simp [List.getD_eq_getElem?_getD]
 rw [h1, h2, List.set_append_right _ _ (Nat.le_refl _), List.set_append_right _ _ (by omega)]
 simp
theorem idxO_mid {A C : List Int} {a : Int} (h : a ∉ A) : idxO (A ++ a :: C) a = some (A.length : Int) := by
 refine idxO_eq (by simp) (by simp) (fun j hj e => h ?_)
 rw [List.getElem?_append_left hj] at e
 exact List.mem_of_getElem? e
def bothX (f : Int → Int → CrM) (x y : Option Int) : Option CrM := match x, y with | some a, some b => some (f a b) | _, _ => none
/-- two neighbours that cross, if both are there. -/
theorem cross_swap {A C : List Int} {x y : Option Int} (hn : (A ++ [x, y].filterMap id ++ C).Nodup) {f : Int → Int → CrM} (hf : ∀ a b, (f a b).going = a) (out : List Int) :
  ∃ out', ((bothX f x y).toList.foldl weaveC (A ++ [x, y].filterMap id ++ C, out)) = (A ++ [y, x].filterMap id ++ C, out') ∧ (A ++ [y, x].filterMap id ++ C).Nodup := by
 match x, y with
 | none, none => exact ⟨out, rfl, hn⟩
 | none, some b => exact ⟨out, rfl, hn⟩
 | some a, none => exact ⟨out, rfl, hn⟩
 | some a, some b =>
  have ha : a ∉ A := by
   intro hm
   have h1 := List.nodup_append.1 (List.append_assoc _ _ _ ▸ hn)
   exact h1.2.2 a hm a (by simp) rfl
  have e : (A ++ [some a, some b].filterMap id ++ C) = A ++ a :: b :: C := by simp
  have e2 : (A ++ [some b, some a].filterMap id ++ C) = A ++ b :: a :: C := by simp
  rw [e] at hn ⊢
  rw [e2]
  refine ⟨out ++ [letterC (A ++ a :: b :: C) (f a b)], ?_, ?_⟩
  ·simp only [bothX, Option.toList, List.foldl_cons, List.foldl_nil, weaveC, hf]
   have : (idxZ (A ++ a :: b :: C) a).toNat = A.length := by unfold idxZ; rw [idxO_mid ha]; simp
   rw [this, swpL_at]
  ·refine hn.perm ?_
   exact List.Perm.append_left A (List.Perm.swap b a C)
end Go.Proofs.YtndmeaoidihikaaGreatDoor
