/- Contracts and plain facts that the claim uses (CyA PeA LtA CiA EnP MaP MaQ MaA MaB). Conditions: as each one states. -/
import Derived.RangeFuncNested
import Derived.RangeFuncBound
import Derived.RangeFuncCalls
import Derived.RangeFuncLeaves
import Derived.RangeFuncFrom
import Derived.Shelf.Abstract
import Derived.Shelf.RegionOpen
import Derived.WalkKit
import Derived.OwnWalkIn
import Derived.TacticsInMore
import Derived.LoopNIn
import Derived.LoopIn
import Derived.Test.YtddkdgodgflmlaaGreatDoorProg
import Derived.WalkSpells
import Derived.Maps.AppendAt
import Derived.Deep.Quiet
import Derived.Maps.Own
import Derived.Maps.OwnSet
import Derived.Maps.Views
import Derived.WalkLawsBesides
import Derived.Laws.EntriesVeiled
import Derived.Deep.QuietTactic
import Derived.BigQuiet
import Derived.IntWalk
import Derived.Sort.LoopGhostIn
import Derived.StillTail
import Derived.Laws.Tables
import Derived.Deep.RegionHeld3
import Derived.Shelf.Strings.Trim
import Derived.Shelf.Strings.SlTrimAscii
import Derived.Shelf.Strings.Repeat
import Derived.Shelf.Strings.OnBuilder
import Derived.Shelf.Strconv.Itoa1
import Derived.Shelf.Strconv.Itoa3
import Derived.Shelf.LaysM
import Derived.Ground.Names2Prog
import Derived.Laws.CopyOwn
import Derived.Deep.RegionLaw
import Derived.BigRegion
import Derived.ChangeAlike
import Derived.Shelf.Bits.Mul64
import Derived.Lib.OthersKept
import Derived.Deep.AppendLies
import Derived.Deep.RegionHeldLaw
import Derived.Lib.ItoaLen
import Derived.Lib.ItoaMem
import Derived.Maps.RangeWalk
import Derived.Test.YtddkdgodgflmlaaGreatDoorXz01
import Derived.Test.YtddkdgodgflmlaaGreatDoorXz02
set_option linter.all false

namespace Go.Proofs.YtddkdgodgflmlaaGreatDoor
open Go.RowKit Go.Shelf
attribute [local go_sem] Oper.semAt_some
set_option maxHeartbeats 2000000
set_option maxRecDepth 100000

theorem Reps.keep {α : Type} {c : α → Value} {sz : Nat} {w w' : World} {a : Option Addr} {cap : Nat} {l : List α} (h : Reps c sz w a cap l) (hk : ∀ b, a = some b → KeepAt b.block w w') : Reps c sz w' a cap l := by
 obtain ⟨h1, h2, h3, h4, h5⟩ := h
 refine ⟨h1, h2, h3, h4, fun j u hj => ?_⟩
 obtain ⟨b, o, e, hc⟩ := h5 j u hj
 exact ⟨b, o, e, (hk _ e).cell.trans hc⟩
/-- what the iterator must find again. -/
structure CyKeep (bi bp : Nat) (a : Option Addr) (A B : World) : Prop where
 i : KeepAt bi A B
 p : KeepAt bp A B
 s : ∀ b, a = some b → KeepAt b.block A B
theorem CyKeep.trans {bi bp : Nat} {a : Option Addr} {A B C : World} (h : CyKeep bi bp a A B) (k : CyKeep bi bp a B C) : CyKeep bi bp a A C :=
 ⟨Eq.trans k.i h.i, Eq.trans k.p h.p, fun b e => Eq.trans (k.s b e) (h.s b e)⟩

section
variable {p : List Int} (hp : IsP p) {i : Int} (h0 : 0 ≤ i) (h1 : i < p.length)
def itS (k : Nat) : Slot p.length := ⟨itP p i k, itP_rng hp h0 h1 k⟩
def orbS (d : Nat) : List (Slot p.length) := (List.range d).map (itS hp h0 h1)
theorem orbS_succ (d : Nat) : orbS hp h0 h1 (d + 1) = orbS hp h0 h1 d ++ [itS hp h0 h1 d] := by simp [orbS, List.range_succ]
theorem orbS_len (d : Nat) : (orbS hp h0 h1 d).length = d := by simp [orbS]
theorem orbS_val {d : Nat} (hd : Ord p i d) : (orbS hp h0 h1 d).map (·.1) = orb p i := by rw [orb_eq hd]; simp [orbS, itS, Function.comp_def]

theorem cycle1_in (m l bi bp cap : Nat) (a : Option Addr) (d : Nat) (hd : Ord p i d) (hn2 : p.length ≤ 1048576) (hm : 1 ≤ m) (J Jx : List (Slot p.length) → World → Prop)
  (hY : ∀ pre (x : Slot p.length) W, J pre W → pre.length < p.length → YieldAt Fence.wide (m - 1) Tryz.prog l (slotV x) W fun e W' =>
   (e = .returned (.bool true) ∧ J (pre ++ [x]) W' ∧ CyKeep bi bp a W W') ∨ (e = .returned (.bool false) ∧ Jx (pre ++ [x]) W'))
  (W : World) (hWi : W.cell? ⟨bi, 0, none⟩ = some (.int .i64 i)) (hWp : W.cell? ⟨bp, 0, none⟩ = some (.slice a p.length cap)) (hS : Ints W a cap p) (hJ0 : J [] W) :
  CallsIn Fence.wide m Tryz.prog 151 #[.func (.yield l) #[] #[], .pointer (some ⟨bi, 0, none⟩), .pointer (some ⟨bp, 0, none⟩)] W fun e W' => (∃ v, e = .returned v) ∧
   ((∃ ys, ys = orbS hp h0 h1 d ∧ J ys W') ∨ (∃ pre, (∃ k, pre = orbS hp h0 h1 k) ∧ Jx pre W')) := by
 refine callsIn_of_wp Tryz.func151 rfl trivial ?_ rfl
 simp only [Tryz.ntmps151, List.size_toArray, List.length_cons, List.length_nil, Nat.reduceAdd, Nat.reduceSub, Array.replicate_succ, Array.replicate_zero, List.push_toArray, List.append_toArray, List.nil_append, List.cons_append]
 gi_wp2
 gi_loopg [4] d (fun g x wr => ∃ k : Nat, k + g = d ∧ 0 < g ∧ x = .int .i64 (itP p i k) ∧ J (orbS hp h0 h1 k) wr ∧ wr.cell? ⟨bi, 0, none⟩ = some (.int .i64 i) ∧ wr.cell? ⟨bp, 0, none⟩ = some (.slice a p.length cap) ∧ Ints wr a cap p)
 case atStart => exact ⟨0, by omega, hd.pos, rfl, hJ0, hWi, hWp, hS⟩
 case round =>
  obtain ⟨k, hkg, hg0, rfl, hJs, hci, hcp, hSr⟩ := hrel
  have hdl := hd.le
  obtain ⟨fn, tmps, assign, body, hy, hR⟩ := hY _ (itS hp h0 h1 k) wr hJs (by rw [orbS_len]; omega)
  unfold slotV itS at hy
  dsimp only at hy
  gi_wp2
  refine hR.mono ?_
  rintro e W3 (⟨rfl, hJ3, hk3⟩ | ⟨rfl, hJx3⟩)
  ·have hci3 := hk3.i.cell.trans hci
   have hcp3 := hk3.p.cell.trans hcp
   have hS3 := hSr.keep hk3.s
   clear hci hcp hSr hJs hR hy
   have hr := itP_rng hp h0 h1 k
   obtain ⟨bb, oo, rfl, hcx⟩ := hS3.cells (by decide) 0 (itP p i k).toNat (by omega)
   have hcx := hcx 0 (.int .i64 (itP p i (k + 1))) rfl
   simp only [Nat.mul_one, Nat.add_zero] at hcx
   by_cases hlast : k + 1 = d
   ·have hb : itP p i (k + 1) = i := by rw [hlast]; exact hd.back
    rw [hb] at hcx
    have HB := hid hb; clear hb
    have HL := hid hlast; clear hlast
    gi_wp2
    refine bodyPost_ret (results_none rfl _ _ _) rfl ?_
    refine ⟨⟨_, rfl⟩, .inl ?_⟩
    first | exact ⟨_, rfl, by rw [← HL.out, orbS_succ]; exact hJ3⟩ | (rw [← HL.out, orbS_succ]; exact hJ3)
   ·have hne : (itP p i (k + 1) == i) = false := by simpa using hd.min (k + 1) (by omega) (by omega)
    gi_wp2
    gi_roundg (gk - 1)
    case measure => omega
    case rel => exact ⟨k + 1, by omega, by omega, rfl, by rw [orbS_succ]; exact hJ3, hci3, hcp3, hS3⟩
  ·gi_wp2
   go_end0
   refine ⟨⟨_, rfl⟩, .inr ⟨_, ⟨k + 1, (orbS_succ hp h0 h1 k).symm⟩, hJx3⟩⟩

theorem cycle_stops (m bi bp cap : Nat) (a : Option Addr) (d : Nat) (hd : Ord p i d) (hn2 : p.length ≤ 1048576) (hm : 1 ≤ m) (w : World) (hbi : bi < w.heap.size) (hbp : bp < w.heap.size)
  (hWi : w.cell? ⟨bi, 0, none⟩ = some (.int .i64 i)) (hWp : w.cell? ⟨bp, 0, none⟩ = some (.slice a p.length cap)) (hS : Ints w a cap p) :
  SeqStopsK Fence.wide m Tryz.prog 151 #[.pointer (some ⟨bi, 0, none⟩), .pointer (some ⟨bp, 0, none⟩)] (slotV (n := p.length)) (CyKeep bi bp a) (fun ys => ys = orbS hp h0 h1 d) (fun _ => True) p.length w := fun l J Jx W hW _ _ hY hJ0 => by
 have c1 := (hW.cell (p := ⟨bi, 0, none⟩) hbi).trans hWi
 have c2 := (hW.cell (p := ⟨bp, 0, none⟩) hbp).trans hWp
 refine (cycle1_in hp h0 h1 m l bi bp cap a d hd hn2 hm J Jx hY W c1 c2 (hS.below hW) hJ0).mono ?_
 rintro e W' ⟨he, ⟨ys, hys, hj⟩ | ⟨pre, _, hj⟩⟩
 ·exact ⟨he, .inl ⟨ys, hys, hj⟩⟩
 ·exact ⟨he, .inr ⟨pre, trivial, hj⟩⟩
end

theorem cycle_any (a : Option Addr) (n cap : Nat) (i : Int) (w : World) :
  Calls Tryz.prog 113 #[.slice a n cap, .int .i64 i] w fun r w' =>
   r = .returned (.func (.func 151) #[] #[.pointer (some ⟨w.heap.size + 1, 0, none⟩), .pointer (some ⟨w.heap.size, 0, none⟩)]) ∧ w' = (w.alloc (.cells #[.slice a n cap] 22)).alloc (.cells #[.int .i64 i] 3) := by
 go_enter Tryz.func113, Tryz.ntmps113
 go_wp2
 go_ret
 exact ⟨rfl, rfl⟩
end Go.Proofs.YtddkdgodgflmlaaGreatDoor

namespace Go.Proofs.YtddkdgodgflmlaaGreatDoor
open Go.RowKit Go.Shelf
attribute [local go_sem] Oper.semAt_some
set_option maxHeartbeats 2000000
set_option maxRecDepth 100000

abbrev SlH := Option Addr × Nat × Nat
abbrev cSl (x : SlH) : Value := .slice x.1 x.2.1 x.2.2
theorem cSl1 (x : SlH) : (cSl x).cells = #[cSl x] := rfl
theorem cSlS (x : SlH) : (cSl x).cells.size = 1 := rfl
theorem cSlO (x : SlH) : ∀ u ∈ (cSl x).cells.toList, u.oneCell' = true := by intro u hu; simp [cSl, Value.cells] at hu; subst hu; rfl
theorem E_sls : ETy Tryz.prog 29 22 (.slice none 0 0) 1 24 := ⟨Tryz.underlying29, by kernel_rfl, rfl, by decide⟩
theorem F_sl : Flat Tryz.prog 22 := ⟨_, Tryz.underlying22, rfl⟩
theorem E_bools : ETy Tryz.prog 147 4 (cBool false) 1 1 := ⟨Tryz.underlying147, by kernel_rfl, rfl, by decide⟩
theorem F_bool : Flat Tryz.prog 4 := ⟨_, Tryz.underlying4, rfl⟩

def inP (q : SlH × List Int) : Pc := pOwn cInt 1 3 (cSl q.1) q.2
def valS {n : Nat} (pre : List (Slot n)) : List Int := pre.map (·.1)
theorem valS_snoc {n : Nat} (pre : List (Slot n)) (x : Slot n) : valS (pre ++ [x]) = valS pre ++ [x.1] := by simp [valS]
theorem valS_len {n : Nat} (pre : List (Slot n)) : (valS pre).length = pre.length := by simp [valS]
def markS {n : Nat} (S : List Bool) (pre : List (Slot n)) : List Bool := pre.foldl (fun s x => s.set x.1.toNat true) S
theorem markS_snoc {n : Nat} (S : List Bool) (pre : List (Slot n)) (x : Slot n) : markS S (pre ++ [x]) = (markS S pre).set x.1.toNat true := by simp [markS]
theorem markS_len {n : Nat} : ∀ (pre : List (Slot n)) (S : List Bool), (markS S pre).length = S.length
 | [], S => rfl
 | x :: r, S => by rw [markS, List.foldl_cons]; exact (markS_len r _).trans (by simp)
theorem atD_setB (S : List Bool) (k x : Int) (hk : 0 ≤ k) (hx : 0 ≤ x) (hl : k < S.length) : atD false (S.set k.toNat true) x = (atD false S x || decide (x = k)) := by
 unfold atD
 by_cases e : x = k
 ·subst e
  have : x.toNat < S.length := by omega
  simp [this]
 ·have : ¬ k.toNat = x.toNat := by omega
  simp [List.getD_eq_getElem?_getD, List.getElem?_set_ne this, e]
theorem markS_at {n : Nat} : ∀ (pre : List (Slot n)) (S : List Bool), S.length = n → ∀ x : Int, 0 ≤ x → atD false (markS S pre) x = (atD false S x || decide (x ∈ valS pre))
 | [], S, _, x, _ => by simp [markS, valS]
 | y :: r, S, h, x, hx => by
   have := markS_at r (S.set y.1.toNat true) (by simpa using h) x hx
   rw [markS, List.foldl_cons]
   rw [markS] at this
   rw [this, atD_setB S y.1 x y.2.1 hx (by rw [h]; exact y.2.2), Bool.or_assoc]
   congr 1
   rw [Bool.eq_iff_iff]; simp [valS]
/-- what holds at the head of a round. -/
def CyI (w : World) (p : List Int) (k : Nat) (ad : Option Addr) (Hs : Nat) (S : List Bool) (ov : Value) (qs : List (SlH × List Int)) (Ds : List Nat) (wr : World) : Prop :=
 S.length = p.length ∧ (∀ x : Int, 0 ≤ x → x < p.length → atD false S x = decide (x ∈ (cycK p k).flatten)) ∧ qs.map Prod.snd = cycK p k ∧
  SL w.heap.size w wr (pBlk Hs (.cells #[.slice ad p.length p.length] 147) :: pOwn cBool 1 4 (.slice ad p.length p.length) S :: pOwn cSl 1 22 ov (qs.map Prod.fst) :: (qs.map inP ++ Ds.map pMark))
theorem cycK_in {p : List Int} {k : Nat} (h : (k : Int) ∈ (cycK p k).flatten) : cycK p (k + 1) = cycK p k := by rw [cycK, if_pos h]
theorem cycK_out {p : List Int} {k : Nat} (h : ¬ (k : Int) ∈ (cycK p k).flatten) : cycK p (k + 1) = cycK p k ++ [orb p k] := by rw [cycK, if_neg h]
theorem KeepAt.of_grown {b : Nat} {A B : World} {row : Option Nat} (hg : A.grownBy B row) (hb : b < A.heap.size) (hne : some b ≠ row) : KeepAt b A B := hg.block b hb hne
theorem KeepAt.trans {b : Nat} {A B C : World} (h : KeepAt b A B) (k : KeepAt b B C) : KeepAt b A C := Eq.trans k h
theorem KeepAt.set {b : Nat} {A : World} {x : Addr} {v : Value} (h : b ≠ x.block) : KeepAt b A (A.setCell x v) := Below.heap_setCell _ _ _ _ h

theorem cycles_any (a : Option Addr) (cap : Nat) (p : List Int) (w : World) (hS : Ints w a cap p) (hp : IsP p) (hn : p.length ≤ 1048576) :
  Calls Tryz.prog 60 #[.slice a p.length cap] w fun r w' => ∃ (v : Value) (qs : List (SlH × List Int)), r = .returned v ∧ qs.map Prod.snd = cycK p p.length ∧ SL w.heap.size w w' (pOwn cSl 1 22 v (qs.map Prod.fst) :: qs.map inP) := by
 have hcap := hS.le
 have hm := hS.max
 refine callsIn_wide.1 (callsIn_of_wp_marks (n := 9) (F := Fence.wide) Tryz.func60 rfl trivial ?_ rfl)
 simp only [Tryz.ntmps60, List.size_toArray, List.length_cons, List.length_nil, Nat.reduceAdd, Nat.reduceSub, Array.replicate_succ, Array.replicate_zero, List.push_toArray, List.append_toArray, List.nil_append, List.cons_append]
 refine wpIn_wide.2 ?_
 have hs0 := SL.nil w
 go_wp2_with ((with_reducible refine wpList_makeL (c := cBool) (p.length) (false) E_bools cBool1 wU wU (by omega) (by omega) (hs0) ?_); intro ad w1 hs1)
 obtain ⟨Hs, hHs⟩ : ∃ x, x = w1.heap.size := ⟨_, rfl⟩
 rw [← hHs]
 have hs2 := hs1.box (.cells #[.slice ad p.length p.length] 147)
 rw [← hHs] at hs2
 have hS2 := hS.below hs2.b
 clear hs1 hHs
 refine wp_loop (fun a' wr => ∃ (k : Nat) (S : List Bool) (ov : Value) (qs : List (SlH × List Int)) (Ds : List Nat) (u5 u6 u7 u14 u15 u16 u17 u18 u19 u20 u21 u22 u23 u24 u25 u26 u27 u28 u29 u30 u31 u32 u33 u34 u35 : Value), a' = { tmps := #[.slice a p.length cap, undef, .slice none 0 0, ov, .pointer (some ⟨Hs, 0, none⟩), u5, u6, u7, .slice a p.length cap, .int .i64 p.length, .slice ad p.length p.length, .slice a p.length cap, .int .i64 p.length, .int .i64 k, u14, u15, u16, u17, u18, u19, u20, u21, u22, u23, u24, u25, u26, u27, u28, u29, u30, u31, u32, u33, u34, u35, undef], defers := Ds.map markOf } ∧ k ≤ p.length ∧ CyI w p k ad Hs S ov qs Ds wr) (fun a' _ => p.length - (intOf (a'.tmps.getD 13 undef)).toNat) ?_ ?_
 ·refine ⟨0, List.replicate p.length false, .slice none 0 0, [], [], undef, undef, undef, undef, undef, undef, undef, undef, undef, undef, undef, undef, undef, undef, undef, undef, undef, undef, undef, undef, undef, undef, undef, undef, undef, rfl, Nat.zero_le _, by simp, ?_, rfl, ?_⟩
  ·intro x h0 h1
   have : x.toNat < p.length := by omega
   simp [atD, cycK, this]
  ·exact ((hs2.nilS (α := SlH) (e := 22) cSlS).pick [1, 2, 0] (by decide) _ rfl)
 ·rintro a' wr ⟨k, S, ov, qs, Ds, u5, u6, u7, u14, u15, u16, u17, u18, u19, u20, u21, u22, u23, u24, u25, u26, u27, u28, u29, u30, u31, u32, u33, u34, u35, rfl, hk, hlen, hsn, hqs, hSL⟩
  have hSr := hS.below hSL.b
  have hqlen : (qs.map Prod.fst).length ≤ k := by
   have h1 := cycK_len p k
   rw [← hqs] at h1; simpa using h1
  by_cases hlt : k < p.length
  ·have hsk := hsn k (by omega) (by omega)
   have HSN := hid hsn; clear hsn
   have HL := hid hlen; clear hlen
   have HQ := hid hqs; clear hqs
   have hsb := hSL.cell 0 rfl 0 rfl
   have hRB := hSL.rd 1 rfl
   by_cases hin : (k : Int) ∈ (cycK p k).flatten
   ·rw [decide_eq_true hin] at hsk
    have HSK := hid hsk; clear hsk
    have HIN := hid hin; clear hin
    go_wp2_with ((with_reducible refine wpList_idxN _ false E_bools F_bool cBool1 wU wU (hRB) (HL.out) oD oD (fun _ => wU) (fun _ => ?_)); rw [HSK.out])
    refine ⟨⟨k + 1, S, ov, qs, Ds, _, _, _, _, _, _, _, _, _, _, _, _, _, _, _, _, _, _, _, _, _, _, _, _, _, rfl, by omega, HL.out, ?_, ?_, hSL⟩, by simp [intOf]; omega⟩
    ·rw [cycK_in HIN.out]; exact HSN.out
    ·rw [cycK_in HIN.out]; exact HQ.out
   ·rw [decide_eq_false hin] at hsk
    have HSK := hid hsk; clear hsk
    have HIN := hid hin; clear hin
    go_wp2_with ((with_reducible refine wpList_idxN _ false E_bools F_bool cBool1 wU wU (hRB) (HL.out) oD oD (fun _ => wU) (fun pidx => ?_)); rw [HSK.out])
    refine (cycle_any _ _ _ _ _).mono ?_
    rintro e w3 ⟨rfl, rfl⟩
    go_wp2_with fail
    obtain ⟨d, hd⟩ := ord_ex hp (i := (k : Int)) (by omega) (by omega)
    have hk0 : (0 : Int) ≤ k := by omega
    have hk1 : (k : Int) < p.length := by omega
    have hS4 := (((hSL.nilS (α := Int) (e := 3) cIntS).box (.cells #[.slice none 0 0] 22)).box (.cells #[.slice a p.length cap] 22)).box (.cells #[.int .i64 k] 3)
    have hcn := hS4.cell 0 rfl 0 rfl
    have hcm := hS4.cell 1 rfl 0 rfl
    simp only [World.size_alloc] at hS4 hcn hcm
    have hmarks : ∀ D ∈ Ds, D < wr.heap.size := by
     intro D hD
     obtain ⟨i, hi, rfl⟩ := List.mem_iff_getElem.1 hD
     exact (hSL.blk (i + qs.length + 3) (k := Ds[i]) (o := .deferred (some [])) (by simp [pMark, hi, List.getElem?_append_right])).2.2
    have hokT : ∀ (lv : Value) (l : List Int) (S' : List Bool), ∀ q ∈ (pBlk (wr.heap.size + 1 + 1) (.cells #[.int .i64 k] 3) :: pBlk (wr.heap.size + 1) (.cells #[.slice a p.length cap] 22) :: pBlk wr.heap.size (.cells #[lv] 22) :: pOwn cInt 1 3 lv l ::
      pBlk Hs (.cells #[.slice ad p.length p.length] 147) :: pOwn cBool 1 4 (.slice ad p.length p.length) S' :: pOwn cSl 1 22 ov (qs.map Prod.fst) :: (qs.map inP ++ Ds.map pMark)), q.okT (wr.heap.size + 1 + 1 + 1) := by
     intro lv l S' q hq
     simp only [List.mem_cons, List.mem_map, List.mem_append] at hq
     rcases hq with rfl | rfl | rfl | rfl | rfl | rfl | rfl | ⟨z, _, rfl⟩ | ⟨D, hD, rfl⟩
     ·exact okT_cells
     ·exact okT_cells
     ·exact okT_cells
     ·exact okT_own
     ·exact okT_cells
     ·exact okT_own
     ·exact okT_own
     ·exact okT_own
     ·exact okT_lt (by have := hmarks D hD; omega)
    have HOK := hid hokT; clear hokT
    have hzr := hSL.z
    have hal : ∀ b, a = some b → b.block < w.heap.size := by
     intro b e
     obtain ⟨b1, o1, e1, hc⟩ := hS.cells (by decide) 0 k hlt
     have hc := hc 0 _ rfl
     rw [e] at e1; cases e1
     have := World.block_lt_of_cell? w _ hc
     exact this
    refine (wpIn_wide (n := 9)).1 ?_
    refine wpIn_rangeFunc_ownF rfl (by decide) (gf := 151) (lb := #[.pointer (some ⟨wr.heap.size + 1 + 1, 0, none⟩), .pointer (some ⟨wr.heap.size + 1, 0, none⟩)]) rfl trivial (enters_of Tryz.func151 kR rfl)
     (cycle_stops hp hk0 hk1 8 (wr.heap.size + 1 + 1) (wr.heap.size + 1) cap a d hd hn (by decide) _ (by simp) (by simp) hcn hcm (hSr.below ((((Below.refl _ _).alloc (Nat.le_refl _) _).alloc (by simp) _).alloc (by simp; omega) _)))
     (fun h1 h2 => h1.trans h2) (fun W j o o' hj _ _ _ => ⟨World.putObj_heap_other (by simp at hj; omega), World.putObj_heap_other (by simp at hj; omega), fun b e => World.putObj_heap_other (by have := hal b e; simp at hj; omega)⟩) (Below.refl _ _) (fun _ => rfl)
     (fun pre W => pre.length ≤ p.length ∧ ∃ lv, SL w.heap.size w W (pBlk (wr.heap.size + 1 + 1) (.cells #[.int .i64 k] 3) :: pBlk (wr.heap.size + 1) (.cells #[.slice a p.length cap] 22) :: pBlk wr.heap.size (.cells #[lv] 22) :: pOwn cInt 1 3 lv (valS pre) ::
      pBlk Hs (.cells #[.slice ad p.length p.length] 147) :: pOwn cBool 1 4 (.slice ad p.length p.length) (markS S pre) :: pOwn cSl 1 22 ov (qs.map Prod.fst) :: (qs.map inP ++ Ds.map pMark)))
     (fun _ _ _ => False) ?hI (fun _ _ _ _ _ hs _ _ => hs) ⟨by simp, .slice none 0 0, hS4⟩
     (fun x => { tmps := #[.slice a p.length cap, undef, .slice none 0 0, ov, .pointer (some ⟨Hs, 0, none⟩), .int .i64 k, .pointer (some ⟨wr.heap.size, 0, none⟩), .int .i64 x.1, .slice a p.length cap, .int .i64 p.length, .slice ad p.length p.length, .slice a p.length cap, .int .i64 p.length, .int .i64 k, .bool true, .int .i64 k, .slice ad p.length p.length, .int .i64 k, pidx, .bool false, .slice a p.length cap, .int .i64 k, .func (.func 151) #[] #[.pointer (some ⟨wr.heap.size + 1 + 1, 0, none⟩), .pointer (some ⟨wr.heap.size + 1, 0, none⟩)], .int .i64 x.1, u24, u25, u26, u27, u28, u29, u30, u31, u32, u33, u34, u35, undef], defers := [] }) ?assign ?body ?done ?stop
    case hI =>
     rintro s A B row ⟨hs1, lv, hs⟩ hg hr
     exact ⟨hs1, lv, hs.turn (C := wr.heap.size + 1 + 1 + 1) (by omega) (HOK.out _ _ _) hg (fun r e => by have := hr r e; simpa using this)⟩
    case assign =>
     intro l x W K hK
     dsimp only [slotV]
     gi_wp2
     exact hK
    case body =>
     rintro q pre x W ⟨hpl, lv, hs⟩ hlt2
     have hx0 := x.2.1
     have hx1 := x.2.2
     have hml := markS_len pre S
     obtain ⟨g, hgad, -, hcell, hfr, hS5⟩ := hs.setOwn cBool1 5 rfl x.1 hx0 (by rw [hml, HL.out]; exact hx1) true
     subst hgad
     have hsb2 := hs.cell 4 rfl 0 rfl
     have hlb := hs.cell 2 rfl 0 rfl
     have hn1 : ¬ g = wr.heap.size := hs.apart 5 2 (by decide) rfl rfl own_at blk_at
     have hn2 : g ≠ wr.heap.size + 1 := hs.apart 5 1 (by decide) rfl rfl own_at blk_at
     have hn3 : g ≠ wr.heap.size + 1 + 1 := hs.apart 5 0 (by decide) rfl rfl own_at blk_at
     have hgB : w.heap.size ≤ g := ((hs.own 5 rfl).lt g rfl).1
     obtain ⟨bv, hbv⟩ : ∃ bv, W.cell? ⟨g, x.1.toNat, none⟩ = some (.bool bv) := by
      have : x.1.toNat < (markS S pre).length := by rw [hml, HL.out]; omega
      exact ⟨(markS S pre)[x.1.toNat], by rw [hcell]; simp [this, cBool]⟩
     have H2 := hid hn2; clear hn2
     have H3 := hid hn3; clear hn3
     have HML := hid hml; clear hml
     clear hcell
     obtain ⟨X, hX⟩ : ∃ X : Int, X = x.1 := ⟨_, rfl⟩
     have hvl := valS_len pre
     have hvl2 : (valS pre).length ≤ 1048576 := by omega
     clear hvl
     gi_wp2_with (((with_reducible refine wpListIn_pushL (y := _) 3 E_ints wU wU (hS5) wU cIntO ⟨rfl, rfl⟩ (by first | with_unfolding_all rfl | simp) wU (by first | omega | (simp; omega)) (by first | omega | (simp; omega)) ?_); intro v6 w6 hP hg6 _); obtain ⟨a6, c6, rfl, _⟩ := hP.slice 3 rfl; have hlb6 := hP.cell 2 rfl 0 rfl; have hlf6 := hP.frozen 2 rfl 0)
     have hne0 := hS5.ne_own 3 0 (by decide) rfl rfl
     have hne1 := hS5.ne_own 3 1 (by decide) rfl rfl
     have hob := (hS5.own 3 rfl)
     refine ⟨((KeepsOthers.setCell _ _ _).trans (KeepsOthers.of_grownBy hg6 fun j o ej hj => ?_)).trans (KeepsOthers.setCell _ _ _), ⟨?_, ?_, fun b e => ?_⟩, by simp; omega, .slice a6 (valS pre ++ [x.1]).length c6, ?_⟩
     ·obtain ⟨o', h1, h2⟩ := own_isCells hob ej
      have h3 := hj.symm.trans h1
      cases h3; exact h2
     ·exact ((KeepAt.set (fun e => H3.out e.symm)).trans (KeepAt.of_grown hg6 (by have := (hS5.blk 0 rfl).2.2; exact this) (fun e => hne0 e.symm))).trans (KeepAt.set (by show _ ≠ wr.heap.size; omega))
     ·exact ((KeepAt.set (fun e => H2.out e.symm)).trans (KeepAt.of_grown hg6 (by have := (hS5.blk 1 rfl).2.2; exact this) (fun e => hne1 e.symm))).trans (KeepAt.set (by show _ ≠ wr.heap.size; omega))
     ·have hb := hal b e
      exact ((KeepAt.set (by show _ ≠ g; omega)).trans (KeepAt.of_grown hg6 (Nat.lt_of_lt_of_le hb hS5.z) (fun e => by have := (hob.lt _ e.symm).1; omega))).trans (KeepAt.set (by show _ ≠ wr.heap.size; omega))
     ·rw [valS_snoc, markS_snoc]
      have := hP.set 2 rfl 0 (.slice a6 (valS pre ++ [x.1]).length c6)
      have e : (valS pre ++ [x.1]).length = (valS pre).length + 1 := by simp
      rw [e] at this ⊢
      exact this
    case done =>
     rintro D ys W hD rfl ⟨hpl, lv, hs0⟩ hK
     have hs := hs0.addMark (C := wr.heap.size + 1 + 1 + 1) (HOK.out _ _ _) (by omega) (by simpa using hD) hK
     clear hs0
     obtain ⟨al, cl, rfl, _⟩ := hs.slice 4 rfl
     have hlb := hs.cell 3 rfl 0 rfl
     dsimp only
     go_wp2_with ((with_reducible refine wpList_pushL (y := ((al, (valS (orbS hp hk0 hk1 d)).length, cl) : SlH)) 7 E_sls wU wU (hs) wU cSlO ⟨rfl, rfl⟩ (by first | with_unfolding_all rfl | simp) wU (by first | omega | (simp; omega)) (by first | omega | (simp; omega)) ?_); intro v4 w4 hP)
     have hR1 := SL.pickA (K := [_, _, _, _, _, _, _, _]) (M := qs.map inP ++ Ds.map pMark) hP [5, 6, 7, 4, 0] (by decide) (by simp) [_, _, _, _, _] rfl
     refine ⟨⟨k + 1, markS S (orbS hp hk0 hk1 d), v4, qs ++ [((al, (valS (orbS hp hk0 hk1 d)).length, cl), valS (orbS hp hk0 hk1 d))], D :: Ds, _, _, _, _, _, _, _, _, _, _, _, _, _, _, _, _, _, _, _, _, _, _, _, _, _, rfl, by omega, ?_, ?_, ?_, ?_⟩, by simp [intOf]; omega⟩
     ·rw [markS_len, HL.out]
     ·intro x h0 h1
      rw [markS_at _ _ HL.out x h0, HSN.out x h0 h1, cycK_out HIN.out]
      rw [show valS (orbS hp hk0 hk1 d) = orb p k from orbS_val hp hk0 hk1 hd]
      simp
     ·rw [List.map_append, HQ.out, cycK_out HIN.out]
      rw [show valS (orbS hp hk0 hk1 d) = orb p k from orbS_val hp hk0 hk1 hd]
      rfl
     ·refine hR1.perm ?_
      rw [List.map_append, List.map_append]
      refine List.Perm.cons _ (List.Perm.cons _ (List.Perm.cons _ ?_))
      simp only [List.map_cons, List.map_nil, List.append_assoc, List.cons_append, List.nil_append]
      show (inP ((al, (valS (orbS hp hk0 hk1 d)).length, cl), valS (orbS hp hk0 hk1 d)) :: pMark D :: (qs.map inP ++ Ds.map pMark)).Perm _
      exact (List.perm_middle.trans (List.Perm.cons _ List.perm_middle)).symm
    case stop =>
     rintro D c pre W _ _ h _
     exact h.elim
  ·have hkk : k = p.length := by omega
   have HKK := hid hkk; clear hkk
   have HQ := hid hqs; clear hqs
   clear hsn hlen
   go_wp2_with fail
   refine SL.leave' (L := pOwn cSl 1 22 ov (qs.map Prod.fst) :: qs.map inP) hSL.tail.tail fun W hW => ⟨ov, ?_, ov, qs, rfl, by rw [HQ.out, HKK.out], hW⟩
   simp [results, Tryz.f60, go_sem]
end Go.Proofs.YtddkdgodgflmlaaGreatDoor

namespace Go.Proofs.YtddkdgodgflmlaaGreatDoor
open Go.RowKit Go.Shelf
set_option maxHeartbeats 1000000
set_option maxRecDepth 100000

theorem FDiv_any (p n : Int) (w : World) (p0 : 0 ≤ p) (p1 : p ≤ 4611686018427387904) (n0 : 0 < n) (n1 : n ≤ 4611686018427387904) :
  Calls Tryz.prog 63 #[fV p 1, fV n 1] w fun r w' => r = .returned (fV (p / Int.gcd p n) (n / Int.gcd p n)) ∧ Below w.heap.size w w' := by
 have h1 := fun w => Inv_any n 1 w n0 n1 (by decide) (by decide)
 have e : Int.gcd 1 n = 1 := by simp
 rw [e] at h1
 have e2 : (1 : Int) / ((1 : Nat) : Int) = 1 := by decide
 have e3 : n / ((1 : Nat) : Int) = n := by simp
 rw [e2, e3] at h1
 have HI := hid h1; clear h1 e e2 e3
 have h2 := fun w => FMul_any p 1 1 n w p0 p1 (by decide) (by decide) (by decide) (by decide) n0 n1 (by omega) (by omega)
 rw [Int.mul_one, Int.one_mul] at h2
 have HM := hid h2; clear h2
 obtain ⟨x, hx⟩ : ∃ x, x = p / Int.gcd p n := ⟨_, rfl⟩
 obtain ⟨y, hy⟩ : ∃ y, y = n / Int.gcd p n := ⟨_, rfl⟩
 rw [← hx, ← hy] at HM
 rw [← hx, ← hy]
 clear hx hy
 go_enter Tryz.func63, Tryz.ntmps63
 go_wp2
 have hS := (((SL.nil w).box (.cells #[.int .i64 p, .slice none 0 0, .int .i64 1, .slice none 0 0] 103)).box (.cells #[.int .i64 n, .slice none 0 0, .int .i64 1, .slice none 0 0] 103)).box (.cells #[.int .i64 0, .slice none 0 0, .int .i64 0, .slice none 0 0] 103)
 simp only [World.size_alloc] at hS
 have q1 := (hS.blk 1 rfl).1
 have q2 := (hS.blk 2 rfl).1
 refine wp_region_qt 4 kR kR ?_
 simp only [List.take_succ_cons, List.take_zero, List.drop_succ_cons, List.drop_zero]
 repeat (first | ((refine wpB_call (fV 1 n) wU (fun w' => ?_) (fun w' hw' => HI.out w') ?_); (focus (go_simp; done)); (try simp only [Act.put, pA, pB, pC])) | ((refine wpB_call (fV x y) wU (fun w' => ?_) (fun w' hw' => HM.out w') ?_); (focus (go_simp; done)); (try simp only [Act.put, pA, pB, pC])) |  ((with_reducible refine wpB_load (by first | exact F_int | exact F_u64s) wU wU (by assumption) wU ?_); (try simp only [Act.put, pA, pB, pC])) | ((with_reducible refine wpB_loadS (n := 2) (us := #[_, _]) A_int kR wU wU (by assumption) wU wU ?_); (try simp only [Act.put, pA, pB, pC])) | ((with_reducible refine wpB_loadS (n := 4) (us := #[_, _, _, _]) A_frac kR wU wU (by assumption) wU wU ?_); (try simp only [Act.put, pA, pB, pC])) | ((refine wpQ_oneG ?_ wU (fun w' => ?_) ?_); rotate_left; (go_simp; rfl); (try simp only [Act.put, pA, pB, pC])))
 refine wpQuiet_nil ?_
 intro w1 hb1
 replace hS := hS.mono hb1
 go_wp2_with ((with_reducible refine wpList_stoR (us := #[.int .i64 x, .slice none 0 0, .int .i64 y, .slice none 0 0]) 0 wU wU (hS) wU kR wU wU ?_); intro w2 hS2)
 exact bodyPost_ret (results_cell rfl rfl A_frac kR (hS2.blk 0 rfl).1) rfl ⟨rfl, hS2.b⟩

abbrev cU64 (x : Int) : Value := .int .u64 x
theorem cU64S (x : Int) : (cU64 x).cells.size = 1 := rfl
theorem parts_any (n : Int) (w : World) (h0 : 0 < n) (h1 : n ≤ 4611686018427387904) :
  Calls Tryz.prog 158 #[iV n] w fun r w' => ∃ v, r = .returned (.tuple #[.bool false, v]) ∧ SL w.heap.size w w' [pOwn cU64 1 195 v [n]] := by
 have hne : (n == 0) = false := by simp; omega
 have hn0 : ¬ n < 0 := by omega
 have hn1 : decide (n < 0) = false := by simp; omega
 have heq := fun (w : World) (a : Option Addr) (n c : Nat) => run_neq_slice_nil_any (P := Tryz.prog) w 99 195 a n c 0 0 Tryz.underlying99
 go_enter Tryz.func158, Tryz.ntmps158
 go_wp2
 have hS := ((SL.nil w).box (.cells #[.int .i64 n, .slice none 0 0] 101))
 have q1 := (hS.blk 0 rfl).1
 go_region_with (go_at_call 157; refine (nsize_any n _ (by omega) h1).mono ?_; rintro e w' ⟨rfl, rfl⟩)
 all_goals go_wp2
 all_goals go_ret2
 all_goals exact ⟨_, rfl, (SL.ofOwn (own_newN (w := w.alloc (.cells #[.int .i64 n, .slice none 0 0] 101)) cU64S [n] 1 rfl (by decide) #[cU64 n] (by simp) (by simp) rfl) (bal (bal (Below.refl _ _) _) _)).drew⟩

theorem Bits_any (n : Int) (w : World) (h0 : 0 < n) (h1 : n ≤ 4611686018427387904) :
  Calls Tryz.prog 183 #[iV n] w fun r w' => r = .returned (.int .i64 (Lib.bitLen n.toNat)) ∧ Below w.heap.size w w' := by
 have hbl := Lib.bitLen_le n.toNat 64 (by decide) (by omega)
 have HL := hid (fun w => Any.bits_Len64 { Tryz.lays171 with } n w (by omega) (by omega))
 obtain ⟨z, hz⟩ : ∃ z, z = Lib.bitLen n.toNat := ⟨_, rfl⟩
 rw [← hz] at HL hbl ⊢
 clear hz
 go_enter Tryz.func183, Tryz.ntmps183
 go_wp2_with fail
 refine (parts_any n _ h0 h1).mono ?_
 rintro e w1 ⟨v, rfl, hK⟩
 obtain ⟨a1, c1, rfl, hR⟩ := hK.slice 0 rfl
 have hR0 := hR.cells (by decide) 0 0 (by simp)
 obtain ⟨bb, oo, rfl, hcx⟩ := hR0
 have hcx := hcx 0 (cU64 n) rfl
 simp only [Nat.zero_mul, Nat.add_zero] at hcx
 have hb1 := hK.b
 clear hR hK
 go_wp2_with fail
 refine (HL.out _).mono ?_
 rintro e w2 ⟨rfl, rfl⟩
 go_wp2_with fail
 go_ret
 exact ⟨by congr 2, bnext (bal (Below.refl _ _) _) hb1⟩

theorem long_any (n : Int) (w : World) (h0 : 0 < n) (h1 : n ≤ 4611686018427387904) :
  Calls Tryz.prog 161 #[iV n] w fun r w' => r = .returned (.bool false) ∧ Below w.heap.size w w' := by
 have hbl := Lib.bitLen_le n.toNat 64 (by decide) (by omega)
 have HL := hid (fun w => Bits_any n w h0 h1)
 obtain ⟨z, hz⟩ : ∃ z, z = Lib.bitLen n.toNat := ⟨_, rfl⟩
 rw [← hz] at HL hbl
 clear hz
 have hd : decide ((1800 : Int) < z) = false := by simp; omega
 go_enter Tryz.func161, Tryz.ntmps161
 go_wp2_with fail
 refine (HL.out _).mono ?_
 rintro e w1 ⟨rfl, hb1⟩
 go_wp2_with fail
 go_ret
 exact ⟨rfl, bnext (bal (Below.refl _ _) _) hb1⟩

theorem Large_any (p q : Int) (w : World) (h0 : 0 < p) (h1 : p ≤ 4611686018427387904) (h2 : 0 < q) (h3 : q ≤ 4611686018427387904) :
  Calls Tryz.prog 118 #[fV p q] w fun r w' => r = .returned (.bool false) ∧ Below w.heap.size w w' := by
 have HP := hid (fun w => long_any p w h0 h1)
 have HQ := hid (fun w => long_any q w h2 h3)
 go_enter Tryz.func118, Tryz.ntmps118
 go_wp2_with fail
 refine (HP.out _).mono ?_
 rintro e w1 ⟨rfl, hb1⟩
 have hS := ((SL.nil w).box (.cells #[.int .i64 p, .slice none 0 0, .int .i64 q, .slice none 0 0] 103)).mono hb1
 have q1 := (hS.blk 0 rfl).1
 go_wp2_with (with_reducible refine wpList_ldS (n := 2) (us := #[_, _]) A_int kR wU wU (by assumption) wU wU ?_)
 refine (HQ.out _).mono ?_
 rintro e w2 ⟨rfl, hb2⟩
 go_wp2_with fail
 go_ret
 exact ⟨rfl, (hS.mono hb2).b⟩

theorem IsWhole_any (p : Int) (w : World) :
  Calls Tryz.prog 162 #[fV p 1] w fun r w' => r = .returned (.bool true) ∧ Below w.heap.size w w' := by
 have heq := fun (w : World) (a : Option Addr) (n c : Nat) => Lib.run_eql_slice_nil (P := Tryz.prog) w 99 195 a n c 0 0 Tryz.underlying99
 go_enter Tryz.func162, Tryz.ntmps162
 go_wp2
 go_ret
 exact ⟨rfl, bal (Below.refl _ _) _⟩

theorem String_any (n : Int) (w : World) (hI : ItoaOk w n) :
  Calls Tryz.prog 163 #[iV n] w fun r w' => r = .returned (.string (itoaB n)) ∧ Below w.heap.size w w' := by
 have HI := hid (hI _ (bal (Below.refl _ w) (.cells #[.int .i64 n, .slice none 0 0] 101)))
 have heq := fun (w : World) (a : Option Addr) (n c : Nat) => Lib.run_eql_slice_nil (P := Tryz.prog) w 99 195 a n c 0 0 Tryz.underlying99
 go_enter Tryz.func163, Tryz.ntmps163
 go_wp2_with fail
 refine HI.out.mono ?_
 rintro e w1 ⟨rfl, hb1⟩
 go_wp2_with fail
 go_ret
 exact ⟨rfl, bnext (bal (Below.refl _ _) _) hb1⟩
end Go.Proofs.YtddkdgodgflmlaaGreatDoor

namespace Go.Proofs.YtddkdgodgflmlaaGreatDoor
open Go.RowKit Go.Shelf
set_option maxHeartbeats 1000000
set_option maxRecDepth 100000

theorem Text_any (n : Int) (w : World) (hI : ItoaOk w n) :
  Calls Tryz.prog 119 #[fV n 1] w fun r w' => r = .returned (.string (itoaB n)) ∧ Below w.heap.size w w' := by
 have HW := hid (fun w => IsWhole_any n w)
 have HI := hid hI; clear hI
 go_enter Tryz.func119, Tryz.ntmps119
 go_wp2_with fail
 refine (HW.out _).mono ?_
 rintro e w1 ⟨rfl, hb1⟩
 have hS := ((SL.nil w).box (.cells #[.int .i64 n, .slice none 0 0, .int .i64 1, .slice none 0 0] 103)).mono hb1
 have q1 := (hS.blk 0 rfl).1
 go_wp2_with (with_reducible refine wpList_ldS (n := 2) (us := #[_, _]) A_int kR wU wU (by assumption) wU wU ?_)
 refine (String_any n _ (HI.out.below hS.b)).mono ?_
 rintro e w2 ⟨rfl, hb2⟩
 go_wp2_with fail
 go_ret
 exact ⟨rfl, (hS.mono hb2).b⟩

theorem result_any (n : Int) (w : World) (h0 : 0 < n) (h1 : n ≤ 4611686018427387904) (hI : ItoaOk w n) :
  Calls Tryz.prog 65 #[fV n 1] w fun r w' => r = .returned (.tuple #[.string (itoaB n), .int .i64 0]) ∧ Below w.heap.size w w' := by
 have HL := hid (fun w => Large_any n 1 w h0 h1 (by decide) (by decide))
 have HI := hid hI; clear hI
 go_enter Tryz.func65, Tryz.ntmps65
 go_wp2_with fail
 refine (HL.out _).mono ?_
 rintro e w1 ⟨rfl, hb1⟩
 have hS := ((SL.nil w).box (.cells #[.int .i64 n, .slice none 0 0, .int .i64 1, .slice none 0 0] 103)).mono hb1
 have q1 := (hS.blk 0 rfl).1
 go_wp2_with (with_reducible refine wpList_ldS (n := 4) (us := #[_, _, _, _]) A_frac kR wU wU (by assumption) wU wU ?_)
 refine (Text_any n _ (HI.out.below hS.b)).mono ?_
 rintro e w2 ⟨rfl, hb2⟩
 go_wp2_with fail
 go_ret2
 exact ⟨rfl, (hS.mono hb2).b⟩

def lensQ (qs : List (SlH × List Int)) : List Nat := qs.map fun q => q.2.length
def perS (p : List Int) : ByteArray := if permE p = 0 then itoaB (periodN p) else ⟨#[]⟩

/-- one step of the least common multiple, in small fractions. -/
theorem step_any (p n : Nat) (hp0 : 0 < p) (hp : p ≤ 34359738368) (hn0 : 0 < n) (hn : n ≤ 64) (w : World) :
  (Calls Tryz.prog 63 #[fV p 1, fV n 1] w fun r w' => r = .returned (fV ((p / Nat.gcd p n : Nat) : Int) ((n / Nat.gcd p n : Nat) : Int)) ∧ Below w.heap.size w w') ∧
  (Calls Tryz.prog 64 #[fV ((p / Nat.gcd p n : Nat) : Int) 1, fV n 1] w fun r w' => r = .returned (fV ((lcmF p n : Nat) : Int) 1) ∧ Below w.heap.size w w') := by
 have e1 : ((p / Nat.gcd p n : Nat) : Int) = (p : Int) / (Int.gcd p n : Int) := by rw [Int.natCast_ediv]; rfl
 have e2 : ((n / Nat.gcd p n : Nat) : Int) = (n : Int) / (Int.gcd p n : Int) := by rw [Int.natCast_ediv]; rfl
 refine ⟨?_, ?_⟩
 ·rw [e1, e2]
  exact FDiv_any p n w (by omega) (by omega) (by omega) (by omega)
 ·have hq : p / Nat.gcd p n ≤ p := Nat.div_le_self _ _
  unfold lcmF
  clear e1 e2
  generalize p / Nat.gcd p n = q at *
  have hl : q * n ≤ p * 64 := Nat.mul_le_mul hq hn
  have hqn : (q : Int) * (n : Int) = ((q * n : Nat) : Int) := (Int.natCast_mul _ _).symm
  have h := FMul_any (q : Int) 1 (n : Int) 1 w (by omega) (by omega) (by decide) (by decide) (by omega) (by omega) (by decide) (by decide) (by rw [hqn]; omega) (by decide)
  have e3 : Int.gcd ((q : Int) * (n : Int)) (1 * 1) = 1 := by simp
  rw [e3, hqn] at h
  have e4 : ((q * n : Nat) : Int) / ((1 : Nat) : Int) = ((q * n : Nat) : Int) := by simp
  rw [e4] at h
  exact h

theorem lens_len (qs : List (SlH × List Int)) : (lensQ qs).length = qs.length := by simp [lensQ]
theorem perF_take {ls : List Nat} {k : Nat} (h : k < ls.length) : perF (ls.take (k + 1)) = lcmF (perF (ls.take k)) ls[k] := by
 rw [List.take_succ_eq_append_getElem h, perF_snoc]
theorem sum_take_le : ∀ (ls : List Nat) (k : Nat), (ls.take k).sum ≤ ls.sum
 | [], k => by simp
 | x :: r, 0 => by simp
 | x :: r, k + 1 => by have := sum_take_le r k; simp; omega

theorem Period_any (a : Option Addr) (cap : Nat) (p : List Int) (w : World) (hS : Ints w a cap p) (hI : ∀ x ∈ p, InI x) (h64 : p.length ≤ 64) (hIt : permE p = 0 → ItoaOk w (periodN p)) :
  Calls Tryz.prog 22 #[.slice a p.length cap] w fun r w' => r = .returned (.tuple #[.string (perS p), .int .i64 (permE p)]) ∧ Below w.heap.size w w' := by
 have HC := hid (CheckPerm_any a cap p w hS hI)
 by_cases h : permE p = 0
 ·have hp := isP_of h
  have hit := hIt h
  have e0 : perS p = itoaB (periodN p) := by unfold perS; rw [if_pos h]
  have hc := HC.out
  rw [h] at hc
  rw [e0, h]
  clear HC e0
  have HC := hid hc; clear hc
  have HIT := hid hit; clear hit hIt
  have hcap := hS.le
  clear h
  go_enter Tryz.func22, Tryz.ntmps22
  go_wp2_with fail
  refine HC.out.mono ?_
  rintro e w1 ⟨rfl, hb1⟩
  go_wp2_with fail
  refine (F_any 1 _).mono ?_
  rintro e w2 ⟨rfl, hb2⟩
  go_wp2_with fail
  have hS0 := (((SL.nil w).mono hb1).mono hb2).box (.cells #[.int .i64 1, .slice none 0 0, .int .i64 1, .slice none 0 0] 103)
  refine (cycles_any a cap p _ (hS.below hS0.b) hp (by omega)).mono ?_
  rintro e w3 ⟨v, qs, rfl, hqs, hK⟩
  replace hS0 := hS0.call hK
  clear hK
  obtain ⟨av, cv, rfl, _⟩ := hS0.slice 0 rfl
  go_wp2_with fail
  have hlq : lensQ qs = (cycK p p.length).map List.length := by rw [← hqs]; simp [lensQ]
  have hsum : (lensQ qs).sum ≤ 64 := by rw [hlq]; exact Nat.le_trans (cycK_sum hp (Nat.le_refl _)) h64
  have hpos : ∀ n ∈ lensQ qs, 0 < n := by
   rw [hlq]; intro n hn
   obtain ⟨l, hl, rfl⟩ := List.mem_map.1 hn
   exact cycK_pos hp (Nat.le_refl _) l hl
  have hper : periodN p = perF (lensQ qs) := by rw [hlq]; rfl
  have hnq : qs.length ≤ 64 := by
   have h1 := cycK_len p p.length
   have h2 : (lensQ qs).length = (cycK p p.length).length := by rw [hlq]; simp
   rw [lens_len] at h2; omega
  have HPER := hid hper; clear hper
  have HPOS := hid hpos; clear hpos
  clear hlq hqs
  have HQL : Hid ((qs.map Prod.fst).length = qs.length) := hid (by simp)
  obtain ⟨H, hH⟩ : ∃ H, H = w2.heap.size := ⟨_, rfl⟩
  rw [← hH] at hS0 ⊢
  clear hH
  go_loopw [7, 8, 18] (fun _ _ i wr => ∃ k : Nat, k ≤ qs.length ∧ i = .int .i64 k ∧
   SL w.heap.size w wr (pBlk H (.cells #[.int .i64 (perF ((lensQ qs).take k)), .slice none 0 0, .int .i64 1, .slice none 0 0] 103) :: pOwn cSl 1 22 (.slice av qs.length cv) (qs.map Prod.fst) :: qs.map inP)) (fun _ _ i _ => qs.length - (intOf i).toNat)
  case atStart => exact ⟨0, by omega, rfl, SL.comm (K := pOwn cSl 1 22 (.slice av qs.length cv) (qs.map Prod.fst) :: qs.map inP) (L := [pBlk H (.cells #[.int .i64 1, .slice none 0 0, .int .i64 1, .slice none 0 0] 103)]) (by simpa using hS0)⟩
  case round =>
   obtain ⟨k, hk, rfl, hSr⟩ := hrel
   have hRq := hSr.rd 1 rfl
   by_cases hlt : k < qs.length
   ·have hlk : k < (lensQ qs).length := by rw [lens_len]; exact hlt
    have hpt := perF_take hlk
    obtain ⟨P0, hP0⟩ : ∃ P0, P0 = perF ((lensQ qs).take k) := ⟨_, rfl⟩
    obtain ⟨n, hn⟩ : ∃ n, n = (lensQ qs)[k] := ⟨_, rfl⟩
    have hn0 : 0 < n := by rw [hn]; exact HPOS.out _ (List.getElem_mem hlk)
    have hn1 : n ≤ 64 := by
     have h1 := sum_take_le (lensQ qs) (k + 1)
     rw [List.take_succ_eq_append_getElem hlk, List.sum_append] at h1
     rw [hn]; simp at h1; omega
    have hp0 : 0 < P0 := by rw [hP0]; exact perF_pos _ 1 (by decide) (fun m hm => HPOS.out m (List.mem_of_mem_take hm))
    have hp1 : P0 ≤ 34359738368 := by rw [hP0]; exact Nat.le_of_lt (perF_lt _ (Nat.le_trans (sum_take_le _ _) hsum))
    rw [← hP0, ← hn] at hpt
    rw [← hP0] at hSr
    have hst := fun w => step_any P0 n hp0 hp1 hn0 hn1 w
    obtain ⟨Z1, hZ1⟩ : ∃ Z : Nat, Z = P0 / Nat.gcd P0 n := ⟨_, rfl⟩
    obtain ⟨Z2, hZ2⟩ : ∃ Z : Nat, Z = n / Nat.gcd P0 n := ⟨_, rfl⟩
    obtain ⟨Z3, hZ3⟩ : ∃ Z : Nat, Z = lcmF P0 n := ⟨_, rfl⟩
    rw [← hZ1, ← hZ2, ← hZ3] at hst
    rw [← hZ3] at hpt
    have HPT := hid hpt; clear hpt
    have HST := hid hst; clear hst
    clear hZ1 hZ2 hZ3
    have hel : (atD (none, 0, 0) (qs.map Prod.fst) k).2.1 = n := by
     have hw := (hSr.own (k + 2) (c := cInt) (sz := 1) (e := 3) (v := cSl qs[k].1) (l := qs[k].2) (by simp [inP, hlt]))
     obtain ⟨a', cap', e1, _⟩ := hw.reps
     have e2 : qs[k].1.2.1 = qs[k].2.length := by have := congrArg (fun v : Value => match v with | .slice _ n _ => n | _ => 0) e1; simpa using this
     rw [hn]
     simp [atD, hlt, e2, lensQ]
    have HEL := hid hel; clear hel
    clear hn hP0
    go_wp2_with ((with_reducible refine wpList_idxN _ ((none, 0, 0) : SlH) E_sls F_sl cSl1 wU wU (hRq) (HQL.out) oD oD (fun _ => wU) (fun _ => ?_)); (try simp only [cSl]); rw [HEL.out])
    refine (F_any n _).mono ?_
    rintro e w4 ⟨rfl, hb4⟩
    replace hSr := (hSr.mono hb4).box (.cells #[.int .i64 n, .slice none 0 0, .int .i64 1, .slice none 0 0] 103)
    go_wp2_with fail
    have q0 := (hSr.blk 0 rfl).1
    have q1 := (hSr.blk 1 rfl).1
    refine wp_region_qt 7 kR kR ?_
    simp only [List.take_succ_cons, List.take_zero, List.drop_succ_cons, List.drop_zero]
    ((with_reducible refine wpB_loadS (n := 4) (us := #[_, _, _, _]) A_frac kR wU wU (by assumption) wU wU ?_); (try simp only [Act.put, pA, pB, pC]))
    ((with_reducible refine wpB_loadS (n := 4) (us := #[_, _, _, _]) A_frac kR wU wU (by assumption) wU wU ?_); (try simp only [Act.put, pA, pB, pC]))
    ((refine wpB_call (fV Z1 Z2) wU (fun w' => ?_) (fun w' hw' => (HST.out w').1) ?_); (focus (go_simp; done)); (try simp only [Act.put, pA, pB, pC]))
    refine wpQ_oneG (iV Z1) wU (fun w' => ?_) ?_
    ·go_simp
     kernel_rfl
    ((refine wpB_call (fV Z1 1) wU (fun w' => ?_) (fun w' hw' => Whole_any _ w') ?_); (focus (go_simp; done)); (try simp only [Act.put, pA, pB, pC]))
    ((with_reducible refine wpB_loadS (n := 4) (us := #[_, _, _, _]) A_frac kR wU wU (by assumption) wU wU ?_); (try simp only [Act.put, pA, pB, pC]))
    ((refine wpB_call (fV Z3 1) wU (fun w' => ?_) (fun w' hw' => (HST.out w').2) ?_); (focus (go_simp; done)); (try simp only [Act.put, pA, pB, pC]))
    refine wpQuiet_nil ?_
    intro w5 hb5
    replace hSr := hSr.mono hb5
    clear q0 q1
    go_wp2_with ((with_reducible refine wpList_stoR (us := #[.int .i64 Z3, .slice none 0 0, .int .i64 1, .slice none 0 0]) 1 wU wU (hSr) wU kR wU wU ?_); intro w6 hS6)
    refine ⟨⟨k + 1, by omega, by go_num, ?_⟩, by simp [intOf]; omega⟩
    rw [HPT.out]
    exact hS6.tail
   ·have hkq : k = qs.length := by omega
    have hlk : (lensQ qs).take k = lensQ qs := List.take_of_length_le (by rw [lens_len]; omega)
    rw [hlk, ← HPER.out] at hSr
    have hN0 : 0 < periodN p := by rw [HPER.out]; exact perF_pos _ 1 (by decide) HPOS.out
    have hN1 : periodN p < 34359738368 := by rw [HPER.out]; exact perF_lt _ hsum
    clear hlk
    have HKQ := hid hkq; clear hkq
    have q0 := (hSr.blk 0 rfl).1
    go_wp2_with (with_reducible refine wpList_ldS (n := 4) (us := #[_, _, _, _]) A_frac kR wU wU (by assumption) wU wU ?_)
    refine (result_any (periodN p) _ (by omega) (by omega) (HIT.out.below hSr.b)).mono ?_
    rintro e w4 ⟨rfl, hb4⟩
    go_wp2_with fail
    go_ret2
    exact ⟨rfl, (hSr.mono hb4).b⟩
 ·have e0 : perS p = ⟨#[]⟩ := by unfold perS; rw [if_neg h]
  have hne : (permE p != 0) = true := by simpa using h
  rw [e0]
  clear e0 h hIt
  go_enter Tryz.func22, Tryz.ntmps22
  go_wp2_with fail
  refine HC.out.mono ?_
  rintro e w1 ⟨rfl, hb1⟩
  go_wp2_with fail
  go_ret2
  exact ⟨rfl, hb1⟩
end Go.Proofs.YtddkdgodgflmlaaGreatDoor

namespace Go.Proofs.YtddkdgodgflmlaaGreatDoor
open Go.RowKit Go.Maps
set_option maxRecDepth 100000

section
variable {P : Program} {ops : Array Oper} {Q : Exit → Act → World → Prop} {md : Region.Mode} {C : World → Prop}
end
theorem MapI.le {w : World} {b n n' : Nat} {f : Int → Int} (h : MapI w b n f) (hn : n ≤ n') : MapI w b n' f := by
 obtain ⟨D, h1, h2⟩ := h; exact ⟨D, h1.mono hn, h2⟩
end Go.Proofs.YtddkdgodgflmlaaGreatDoor

namespace Go.Proofs.YtddkdgodgflmlaaGreatDoor
open Go.RowKit Go.Maps
set_option maxHeartbeats 1000000
set_option maxRecDepth 100000

end Go.Proofs.YtddkdgodgflmlaaGreatDoor

namespace Go.Proofs.YtddkdgodgflmlaaGreatDoor
open Go.RowKit
set_option maxHeartbeats 1000000
set_option maxRecDepth 100000

structure Stand (l : List Int) : Prop where
 lo : 4 ≤ l.length
 hi : l.length ≤ 64
 rng : ∀ x ∈ l, 0 ≤ x ∧ x ≤ 64
 ne : ∀ i j : Int, 0 ≤ i → i < l.length → 0 ≤ j → j < l.length → atD 0 l i ≠ 0 → atD 0 l i = atD 0 l j → i = j

def sw (f t j : Int) : Int := if j = f then t else if j = t then f else j
theorem sw_rng {n f t j : Int} (hf : 0 ≤ f ∧ f < n) (ht : 0 ≤ t ∧ t < n) (hj : 0 ≤ j ∧ j < n) : 0 ≤ sw f t j ∧ sw f t j < n := by
 unfold sw; split
 ·exact ht
 ·split
  ·exact hf
  ·exact hj
theorem sw_sw (f t j : Int) : sw f t (sw f t j) = j := by
 unfold sw
 by_cases h1 : j = f
 ·subst h1; by_cases h2 : t = j <;> simp [h2]
 ·by_cases h2 : j = t
  ·subst h2; simp [h1]
  ·simp [h1, h2]
theorem legalN_iff {l : List Int} {f t : Int} : legalN l f t = 0 ↔ (0 ≤ f ∧ f < l.length) ∧ (0 ≤ t ∧ t < l.length) ∧ atD 0 l f ≠ 0 ∧ atD 0 l t = 0 := by
 unfold legalN inB
 by_cases h1 : (decide (0 ≤ f) && decide (f < (l.length : Int)) && (decide (0 ≤ t) && decide (t < (l.length : Int)))) = true
 ·rw [if_pos h1]
  simp only [Bool.and_eq_true, decide_eq_true_eq] at h1
  by_cases h2 : atD 0 l f = 0
  ·rw [if_neg (by simp [h2])]; constructor
   ·intro h; omega
   ·intro h; exact absurd h2 h.2.2.1
  ·rw [if_pos (by simpa using h2)]
   by_cases h3 : atD 0 l t = 0
   ·rw [if_pos (by simp [h3])]; exact ⟨fun _ => ⟨h1.1, h1.2, h2, h3⟩, fun _ => rfl⟩
   ·rw [if_neg (by simpa using h3)]; constructor
    ·intro h; omega
    ·intro h; exact absurd h.2.2.2 h3
 ·rw [if_neg h1]
  simp only [Bool.and_eq_true, decide_eq_true_eq] at h1
  constructor
  ·intro h; omega
  ·intro h; exact absurd ⟨h.1, h.2.1⟩ h1
theorem nextL_length (l : List Int) (f t : Int) : (nextL l f t).length = l.length := by simp [nextL]
theorem nextL_at {l : List Int} {f t : Int} (h : legalN l f t = 0) {j : Int} (hj : 0 ≤ j) : atD 0 (nextL l f t) j = atD 0 l (sw f t j) := by
 obtain ⟨hf, ht, hf0, ht0⟩ := legalN_iff.1 h
 unfold nextL sw
 rw [atD_set hf.1 (by simp; exact hf.2) hj, atD_set ht.1 ht.2 hj]
 by_cases h1 : j = f
 ·rw [if_pos h1, if_pos h1, ht0]
 ·rw [if_neg h1, if_neg h1]; split <;> rfl

/-- all moves are legal, one after the other. -/
def okAll : List Int → List (Int × Int) → Prop
 | _, [] => True
 | s, m :: r => legalN s m.1 m.2 = 0 ∧ okAll (nextL s m.1 m.2) r
def runL : List Int → List (Int × Int) → List Int
 | s, [] => s
 | s, m :: r => runL (nextL s m.1 m.2) r
/-- from where the thread of a slot comes. -/
def mvT : List (Int × Int) → Int → Int
 | [], j => j
 | m :: r, j => sw m.1 m.2 (mvT r j)
theorem runL_len : ∀ (ms : List (Int × Int)) (s : List Int), (runL s ms).length = s.length
 | [], s => rfl
 | m :: r, s => by rw [runL, runL_len r, nextL_length]
/-- the same slots are free. -/
def free2 (s x : List Int) : Prop := x.length = s.length ∧ ∀ j : Int, 0 ≤ j → j < s.length → (atD 0 x j = 0 ↔ atD 0 s j = 0)
theorem free2_legal {s x : List Int} (h : free2 s x) {f t : Int} (hl : legalN s f t = 0) : legalN x f t = 0 := by
 obtain ⟨hf, ht, hf0, ht0⟩ := legalN_iff.1 hl
 refine legalN_iff.2 ⟨by rw [h.1]; exact hf, by rw [h.1]; exact ht, ?_, ?_⟩
 ·intro e; exact hf0 ((h.2 f hf.1 hf.2).1 e)
 ·exact (h.2 t ht.1 ht.2).2 ht0
theorem free2_next {s x : List Int} (h : free2 s x) {f t : Int} (hl : legalN s f t = 0) : free2 (nextL s f t) (nextL x f t) := by
 obtain ⟨hf, ht, _, _⟩ := legalN_iff.1 hl
 refine ⟨by rw [nextL_length, nextL_length, h.1], fun j j0 j1 => ?_⟩
 rw [nextL_length] at j1
 rw [nextL_at hl j0, nextL_at (free2_legal h hl) j0]
 obtain ⟨a, b⟩ := sw_rng hf ht ⟨j0, j1⟩
 exact h.2 _ a b
theorem free2_ok : ∀ (ms : List (Int × Int)) (s x : List Int), free2 s x → okAll s ms → okAll x ms
 | [], _, _, _, _ => trivial
 | m :: r, s, x, h, ho => ⟨free2_legal h ho.1, free2_ok r _ _ (free2_next h ho.1) ho.2⟩
theorem mvT_rng : ∀ (ms : List (Int × Int)) (s : List Int), okAll s ms → ∀ j : Int, 0 ≤ j → j < s.length → 0 ≤ mvT ms j ∧ mvT ms j < s.length
 | [], _, _, j, j0, j1 => ⟨j0, j1⟩
 | m :: r, s, h, j, j0, j1 => by
   obtain ⟨hf, ht, _, _⟩ := legalN_iff.1 h.1
   have := mvT_rng r (nextL s m.1 m.2) h.2 j j0 (by rw [nextL_length]; exact j1)
   rw [nextL_length] at this
   exact sw_rng hf ht this
theorem mvT_inj : ∀ (ms : List (Int × Int)) (i j : Int), mvT ms i = mvT ms j → i = j
 | [], _, _, h => h
 | m :: r, i, j, h => by
   rw [mvT, mvT] at h
   have := congrArg (sw m.1 m.2) h
   rw [sw_sw, sw_sw] at this
   exact mvT_inj r i j this
theorem runL_at : ∀ (ms : List (Int × Int)) (s : List Int), okAll s ms → ∀ j : Int, 0 ≤ j → j < s.length → atD 0 (runL s ms) j = atD 0 s (mvT ms j)
 | [], _, _, _, _, _ => rfl
 | m :: r, s, h, j, j0, j1 => by
   have hr := mvT_rng r (nextL s m.1 m.2) h.2 j j0 (by rw [nextL_length]; exact j1)
   rw [runL, runL_at r _ h.2 j j0 (by rw [nextL_length]; exact j1), nextL_at h.1 hr.1, mvT]
theorem stand_run {s : List Int} {ms : List (Int × Int)} (hs : Stand s) (h : okAll s ms) : Stand (runL s ms) := by
 refine ⟨by rw [runL_len]; exact hs.lo, by rw [runL_len]; exact hs.hi, ?_, ?_⟩
 ·intro x hx
  obtain ⟨i, hi, rfl⟩ := List.mem_iff_getElem.1 hx
  have e : (runL s ms)[i] = atD 0 (runL s ms) (i : Int) := by simp [atD, hi]
  rw [runL_len] at hi
  have hr := mvT_rng ms s h i (by omega) (by omega)
  rw [e, runL_at ms s h i (by omega) (by omega)]
  exact hs.rng _ (atD_memZ hr.1 hr.2)
 ·intro i j i0 i1 j0 j1 hne e
  rw [runL_len] at i1 j1
  rw [runL_at ms s h i i0 i1] at hne e
  rw [runL_at ms s h j j0 j1] at e
  have hi := mvT_rng ms s h i i0 i1
  have hj := mvT_rng ms s h j j0 j1
  exact mvT_inj ms i j (hs.ne _ _ hi.1 hi.2 hj.1 hj.2 hne e)

/-- what a round without an error does: the permutation leads each thread to its place. -/
structure RoundP (s : List Int) (ms : List (Int × Int)) (p : List Int) : Prop where
 st : Stand s
 ok : okAll s ms
 len : p.length = s.length
 sh : ∀ j : Int, 0 ≤ j → j < s.length → (atD 0 s j = 0 ↔ atD 0 (runL s ms) j = 0)
 fr : ∀ i : Int, 0 ≤ i → i < s.length → atD 0 s i = 0 → atD 0 p i = i
 rng : ∀ i : Int, 0 ≤ i → i < s.length → 0 ≤ atD 0 p i ∧ atD 0 p i < s.length
 mv : ∀ i : Int, 0 ≤ i → i < s.length → atD 0 s i ≠ 0 → mvT ms (atD 0 p i) = i
section
variable {s : List Int} {ms : List (Int × Int)} {p : List Int}
theorem RoundP.inj (h : RoundP s ms p) : ∀ i j : Int, 0 ≤ i → i < s.length → 0 ≤ j → j < s.length → atD 0 p i = atD 0 p j → i = j := by
 intro i j i0 i1 j0 j1 e
 have key : ∀ i j : Int, 0 ≤ i → i < s.length → 0 ≤ j → j < s.length → atD 0 p i = atD 0 p j → atD 0 s i = 0 → atD 0 s j ≠ 0 → False := by
  intro i j i0 i1 j0 j1 e hz hn
  rw [h.fr i i0 i1 hz] at e
  have hm := h.mv j j0 j1 hn
  rw [← e] at hm
  have := (h.sh i i0 i1).1 hz
  rw [runL_at ms s h.ok i i0 i1, hm] at this
  exact hn this
 by_cases a : atD 0 s i = 0
 ·by_cases b : atD 0 s j = 0
  ·rw [h.fr i i0 i1 a, h.fr j j0 j1 b] at e; exact e
  ·exact (key i j i0 i1 j0 j1 e a b).elim
 ·by_cases b : atD 0 s j = 0
  ·exact (key j i j0 j1 i0 i1 e.symm b a).elim
  ·rw [← h.mv i i0 i1 a, ← h.mv j j0 j1 b, e]
theorem RoundP.isP (h : RoundP s ms p) : IsP p :=
 ⟨fun x a b => by have := h.rng x a (by rw [← h.len]; exact b); rw [h.len]; exact this, fun x y a b c d e => h.inj x y a (by rw [← h.len]; exact b) c (by rw [← h.len]; exact d) e⟩

/-- one more round. -/
theorem RoundP.next (h : RoundP s ms p) {x : List Int} (hx : free2 s x) (hsx : Stand x) : okAll x ms ∧ free2 s (runL x ms) ∧ Stand (runL x ms) ∧ ∀ i : Int, 0 ≤ i → i < s.length → atD 0 (runL x ms) (atD 0 p i) = atD 0 x i := by
 have ho := free2_ok ms s x hx h.ok
 have hl := hx.1
 have hat : ∀ j : Int, 0 ≤ j → j < s.length → atD 0 (runL x ms) j = atD 0 x (mvT ms j) := fun j j0 j1 => runL_at ms x ho j j0 (by rw [hl]; exact j1)
 have hz : ∀ j : Int, 0 ≤ j → j < s.length → (atD 0 (runL x ms) j = 0 ↔ atD 0 s j = 0) := by
  intro j j0 j1
  have hr := mvT_rng ms s h.ok j j0 j1
  rw [hat j j0 j1, hx.2 _ hr.1 hr.2, h.sh j j0 j1, runL_at ms s h.ok j j0 j1]
 refine ⟨ho, ⟨by rw [runL_len, hl], hz⟩, stand_run hsx ho, ?_⟩
 intro i i0 i1
 obtain ⟨a, b⟩ := h.rng i i0 i1
 by_cases hn : atD 0 s i = 0
 ·rw [h.fr i i0 i1 hn]
  have h1 := (hz i i0 i1).2 hn
  have h2 := (hx.2 i i0 i1).2 hn
  rw [h1, h2]
 ·rw [hat _ a b, h.mv i i0 i1 hn]

def nowL (s : List Int) (ms : List (Int × Int)) : Nat → List Int
 | 0 => s
 | n + 1 => runL (nowL s ms n) ms
theorem RoundP.now (h : RoundP s ms p) : ∀ n, free2 s (nowL s ms n) ∧ Stand (nowL s ms n) ∧ ∀ i : Int, 0 ≤ i → i < s.length → atD 0 (nowL s ms n) (itP p i n) = atD 0 s i
 | 0 => ⟨⟨rfl, fun _ _ _ => Iff.rfl⟩, h.st, fun _ _ _ => rfl⟩
 | n + 1 => by
   obtain ⟨a, b, c⟩ := h.now n
   obtain ⟨_, d, e, f⟩ := h.next a b
   refine ⟨d, e, fun i i0 i1 => ?_⟩
   have hr := itP_rng h.isP i0 (by rw [h.len]; exact i1) n
   rw [h.len] at hr
   rw [nowL, itP, f _ hr.1 hr.2, c i i0 i1]
theorem RoundP.back (h : RoundP s ms p) (n : Nat) : nowL s ms n = s ↔ ∀ i : Int, 0 ≤ i → i < s.length → itP p i n = i := by
 obtain ⟨a, b, c⟩ := h.now n
 have hid : ∀ i : Int, 0 ≤ i → i < s.length → atD 0 s i = 0 → ∀ n, itP p i n = i := by
  intro i i0 i1 hz n
  induction n with
  | zero => rfl
  | succ n ih => rw [itP, ih]; exact h.fr i i0 i1 hz
 constructor
 ·intro e i i0 i1
  by_cases hz : atD 0 s i = 0
  ·exact hid i i0 i1 hz n
  ·have := c i i0 i1
   rw [e] at this
   have hr := itP_rng h.isP i0 (by rw [h.len]; exact i1) n
   rw [h.len] at hr
   exact (h.st.ne i _ i0 i1 hr.1 hr.2 hz this.symm).symm
 ·intro e
  refine ext_atD a.1 (fun j j0 j1 => ?_)
  rw [a.1] at j1
  have := c j j0 j1
  rwa [e j j0 j1] at this
end

theorem itP_mul {p : List Int} {i : Int} {d : Nat} (h : itP p i d = i) : ∀ q : Nat, itP p i (q * d) = i
 | 0 => by simp [itP]
 | q + 1 => by rw [Nat.succ_mul, itP_add, h, itP_mul h q]
theorem cycK_orb {p : List Int} (hp : IsP p) : ∀ {k : Nat}, k ≤ p.length → ∀ l ∈ cycK p k, ∃ j : Nat, j < k ∧ l = orb p j
 | 0, _, l, h => by simp [cycK] at h
 | k + 1, hk, l, h => by
   rw [cycK] at h
   split at h
   · obtain ⟨j, a, b⟩ := cycK_orb hp (by omega) l h; exact ⟨j, by omega, b⟩
   · rcases List.mem_append.1 h with h | h
     · obtain ⟨j, a, b⟩ := cycK_orb hp (by omega) l h; exact ⟨j, by omega, b⟩
     · simp at h; exact ⟨k, by omega, h⟩
theorem cycK_all {p : List Int} (hp : IsP p) : ∀ {k : Nat}, k ≤ p.length → ∀ j : Nat, j < k → (j : Int) ∈ (cycK p k).flatten
 | 0, _, j, h => by omega
 | k + 1, hk, j, h => by
   rw [cycK]
   split
   · rename_i hin
     by_cases e : j = k
     · subst e; exact hin
     · exact cycK_all hp (by omega) j (by omega)
   · rw [List.flatten_append]
     by_cases e : j = k
     · subst e
       refine List.mem_append_right _ ?_
       obtain ⟨d, hd⟩ := ord_ex hp (i := (j : Int)) (by omega) (by omega)
       simp only [List.flatten_cons, List.flatten_nil, List.append_nil]
       rw [orb_eq hd]
       exact List.mem_map.2 ⟨0, by simp [hd.pos], rfl⟩
     · exact List.mem_append_left _ (cycK_all hp (by omega) j (by omega))
end Go.Proofs.YtddkdgodgflmlaaGreatDoor

namespace Go.Proofs.YtddkdgodgflmlaaGreatDoor
open Go.RowKit
set_option maxHeartbeats 1000000
set_option maxRecDepth 100000

theorem permGo_ok (n : Nat) : ∀ (r seen : List Int), (∀ x ∈ r, 0 ≤ x ∧ x < n ∧ x ∉ seen) → r.Nodup → permGo n seen r = 0
 | [], _, _, _ => rfl
 | x :: r, seen, h, hn => by
   obtain ⟨h1, h2⟩ := List.nodup_cons.1 hn
   obtain ⟨a, b, c⟩ := h x (by simp)
   rw [permGo, if_neg (by rintro (d | d | d) <;> first | exact c d | omega)]
   refine permGo_ok n r _ (fun y hy => ?_) h2
   obtain ⟨d, e, f⟩ := h y (by simp [hy])
   refine ⟨d, e, fun g => ?_⟩
   rcases List.mem_append.1 g with g | g
   · exact f g
   · simp only [List.mem_singleton] at g
     subst g; exact h1 hy
theorem isP_mem {p : List Int} (hp : IsP p) : ∀ x ∈ p, 0 ≤ x ∧ x < p.length := by
 intro x hx
 obtain ⟨i, hi, rfl⟩ := List.mem_iff_getElem.1 hx
 have := hp.rng i (by omega) (by omega)
 simpa [atD, hi] using this
theorem isP_nodup {p : List Int} (hp : IsP p) : p.Nodup := by
 rw [List.Nodup, List.pairwise_iff_getElem]
 intro i j hi hj hij e
 have := hp.inj i j (by omega) (by omega) (by omega) (by omega) (by simpa [atD, hi, hj] using e)
 omega
theorem permE_ok {p : List Int} (hp : IsP p) (h : p.length ≤ 256) : permE p = 0 := by
 unfold permE
 rw [if_neg (by omega)]
 exact permGo_ok _ _ _ (fun x hx => ⟨(isP_mem hp x hx).1, (isP_mem hp x hx).2, by simp⟩) (isP_nodup hp)
end Go.Proofs.YtddkdgodgflmlaaGreatDoor

namespace Go.Proofs.YtddkdgodgflmlaaGreatDoor
set_option maxRecDepth 100000

/-- a machine. -/
structure MacV where
 ring : Bool
 gears : Int
 turn : Int
 sw : List Int
def sharedM (m : MacV) (p : Int) : Bool := (decide (0 ≤ p) && decide (p < m.gears)) && (m.ring || decide (0 < p))
def swGo (m : MacV) : Option Int → List Int → Int
 | _, [] => 0
 | o, s :: r => if sharedM m s = false then 10 else match o with
   | none => swGo m (some s) r
   | some b => if s ≤ b then 11 else swGo m (some s) r
/-- the error of a machine. -/
def macE (m : MacV) : Int :=
 if m.gears < 1 ∨ 16 < m.gears then 3 else if m.ring = true ∧ m.gears % 2 = 1 then 17 else if m.turn ≠ 1 ∧ m.turn ≠ -1 then 3 else if m.gears < m.sw.length then 5 else swGo m none m.sw
structure MacOk (m : MacV) : Prop where
 lo : 1 ≤ m.gears
 hi : m.gears ≤ 16
 even : m.ring = true → m.gears % 2 = 0
 turn : m.turn = 1 ∨ m.turn = -1
 many : m.sw.length ≤ m.gears
theorem macE_zero {m : MacV} (h : macE m = 0) : MacOk m ∧ swGo m none m.sw = 0 := by
 unfold macE at h
 split at h
 ·omega
 ·rename_i h1
  split at h
  ·omega
  ·rename_i h2
   split at h
   ·omega
   ·rename_i h3
    split at h
    ·omega
    ·rename_i h4
     refine ⟨⟨by omega, by omega, fun e => ?_, by omega, by omega⟩, h⟩
     have : ¬ m.gears % 2 = 1 := fun e2 => h2 ⟨e, e2⟩
     omega
def fwdM (m : MacV) (g : Int) : Bool := (m.turn == 1) == (g % 2 == 0)
/-- the place of a slot, or -1. -/
def placeM (m : MacV) (s : Int) : Int :=
 if s % 4 = 0 then s / 4 else if s % 4 = 2 then (if m.ring = true ∧ s / 4 + 1 = m.gears then 0 else s / 4 + 1) else -1
/-- the gear before a place. -/
def befM (m : MacV) (p : Int) : Int := if p = 0 then m.gears - 1 else p - 1
def goesM (m : MacV) (s : Int) : Bool := decide (0 ≤ placeM m s) && sharedM m (placeM m s) && !m.sw.contains (placeM m s)
def overM (m : MacV) (s : Int) : Int := if goesM m s then 4 * befM m (placeM m s) + 2 + 4 * placeM m s - s else s
def rotM (m : MacV) (s : Int) : Int := 4 * (s / 4) + (s % 4 + (if fwdM m (s / 4) then 1 else 3)) % 4
def nextM (m : MacV) (s : Int) : Int := overM m (rotM m s)

theorem place_prog {m : MacV} {s : Int} (h0 : 0 ≤ s) (h1 : s < 4 * m.gears) : (s / 4 + 1) % (m.gears + (if m.ring then 0 else 1)) = if m.ring = true ∧ s / 4 + 1 = m.gears then 0 else s / 4 + 1 := by
 cases hr : m.ring
 ·simp only [Bool.false_eq_true, if_false, false_and]
  exact Int.emod_eq_of_lt (by omega) (by omega)
 ·simp only [if_true, true_and, Int.add_zero]
  split
  ·rename_i h; rw [h]; exact Int.emod_self
  ·exact Int.emod_eq_of_lt (by omega) (by omega)
theorem bef_prog {m : MacV} {p : Int} (h0 : 0 ≤ p) (h1 : p < m.gears) : (p + m.gears - 1) % m.gears = befM m p := by
 unfold befM
 split
 ·rename_i h; subst h; rw [Int.zero_add]; exact Int.emod_eq_of_lt (by omega) (by omega)
 ·rw [show p + m.gears - 1 = (p - 1) + m.gears by omega, Int.add_emod_right]
  exact Int.emod_eq_of_lt (by omega) (by omega)
theorem shared_iff {m : MacV} {p : Int} : sharedM m p = true ↔ 0 ≤ p ∧ p < m.gears ∧ (m.ring = true ∨ 0 < p) := by
 unfold sharedM
 simp only [Bool.and_eq_true, Bool.or_eq_true, decide_eq_true_eq]
 exact and_assoc
/-- the two slots of a shared place. -/
theorem over_cases {m : MacV} {s : Int} (h0 : 0 ≤ s) (h1 : s < 4 * m.gears) : (goesM m s = false ∧ overM m s = s) ∨
  (goesM m s = true ∧ 0 ≤ overM m s ∧ overM m s < 4 * m.gears ∧ placeM m (overM m s) = placeM m s ∧ overM m s ≠ s ∧ overM m s = 4 * befM m (placeM m s) + 2 + 4 * placeM m s - s) := by
 cases hg : goesM m s
 ·exact .inl ⟨rfl, by unfold overM; rw [hg]; rfl⟩
 ·right
  have e : overM m s = 4 * befM m (placeM m s) + 2 + 4 * placeM m s - s := by unfold overM; rw [if_pos hg]
  unfold goesM at hg
  simp only [Bool.and_eq_true, decide_eq_true_eq] at hg
  obtain ⟨⟨hp0, hsh⟩, _⟩ := hg
  obtain ⟨_, hp1, hp2⟩ := shared_iff.1 hsh
  refine ⟨rfl, ?_⟩
  obtain ⟨p, hp⟩ : ∃ p, p = placeM m s := ⟨_, rfl⟩
  rw [← hp] at e hp0 hp1 hp2 ⊢
  rw [e]
  unfold placeM at hp ⊢
  unfold befM
  cases hr : m.ring
  ·simp only [hr, Bool.false_eq_true, false_and, if_false, false_or] at hp hp2 ⊢
   rw [if_neg (by omega)]
   split at hp
   ·subst hp
    refine ⟨by omega, by omega, ?_, by omega, trivial⟩
    rw [if_neg (by omega), if_pos (by omega)]; omega
   ·split at hp
    ·subst hp
     refine ⟨by omega, by omega, ?_, by omega, trivial⟩
     rw [if_pos (by omega)]; omega
    ·omega
  ·simp only [hr, true_and, true_or] at hp hp2 ⊢
   split at hp
   ·by_cases hz : p = 0
    ·rw [if_pos hz]
     refine ⟨by omega, by omega, ?_, by omega, trivial⟩
     rw [if_neg (by omega), if_pos (by omega), if_pos (by omega)]; omega
    ·rw [if_neg hz]
     refine ⟨by omega, by omega, ?_, by omega, trivial⟩
     rw [if_neg (by omega), if_pos (by omega), if_neg (by omega)]; omega
   ·split at hp
    ·split at hp
     ·subst hp
      rw [if_pos rfl]
      refine ⟨by omega, by omega, ?_, by omega, trivial⟩
      rw [if_pos (by omega)]; omega
     ·rw [if_neg (by omega)]
      refine ⟨by omega, by omega, ?_, by omega, trivial⟩
      rw [if_pos (by omega)]; omega
    ·omega
theorem over_rng {m : MacV} {s : Int} (h0 : 0 ≤ s) (h1 : s < 4 * m.gears) : 0 ≤ overM m s ∧ overM m s < 4 * m.gears := by
 rcases over_cases h0 h1 with ⟨_, e⟩ | ⟨_, a, b, _⟩
 ·rw [e]; exact ⟨h0, h1⟩
 ·exact ⟨a, b⟩
theorem over_over {m : MacV} {s : Int} (h0 : 0 ≤ s) (h1 : s < 4 * m.gears) : overM m (overM m s) = s := by
 rcases over_cases h0 h1 with ⟨_, e⟩ | ⟨hg, a, b, hp, _, e⟩
 ·rw [e, e]
 ·have hg2 : goesM m (overM m s) = true := by unfold goesM at hg ⊢; rw [hp]; exact hg
  rcases over_cases a b with ⟨hg3, _⟩ | ⟨_, _, _, _, _, e2⟩
  ·rw [hg2] at hg3; cases hg3
  ·rw [e2, hp, e]; omega
theorem rot_rng {m : MacV} {s : Int} (h0 : 0 ≤ s) (h1 : s < 4 * m.gears) : 0 ≤ rotM m s ∧ rotM m s < 4 * m.gears ∧ rotM m s / 4 = s / 4 ∧ rotM m s % 4 = (s % 4 + (if fwdM m (s / 4) then 1 else 3)) % 4 := by
 unfold rotM
 split <;> omega
theorem rot_inj {m : MacV} {s t : Int} (h0 : 0 ≤ s) (h1 : s < 4 * m.gears) (k0 : 0 ≤ t) (k1 : t < 4 * m.gears) (e : rotM m s = rotM m t) : s = t := by
 obtain ⟨_, _, a, b⟩ := rot_rng h0 h1
 obtain ⟨_, _, c, d⟩ := rot_rng k0 k1
 rw [e] at a b
 have hq : s / 4 = t / 4 := by omega
 rw [hq] at b
 split at b
 ·rename_i hf; rw [if_pos hf] at d; omega
 ·rename_i hf; rw [if_neg hf] at d; omega
theorem next_rng {m : MacV} {s : Int} (h0 : 0 ≤ s) (h1 : s < 4 * m.gears) : 0 ≤ nextM m s ∧ nextM m s < 4 * m.gears := by
 obtain ⟨a, b, _⟩ := rot_rng h0 h1
 exact over_rng a b
theorem next_inj {m : MacV} {s t : Int} (h0 : 0 ≤ s) (h1 : s < 4 * m.gears) (k0 : 0 ≤ t) (k1 : t < 4 * m.gears) (e : nextM m s = nextM m t) : s = t := by
 obtain ⟨a, b, _⟩ := rot_rng h0 h1
 obtain ⟨c, d, _⟩ := rot_rng k0 k1
 have := congrArg (overM m) e
 unfold nextM at this
 rw [over_over a b, over_over c d] at this
 exact rot_inj h0 h1 k0 k1 this
/-- the permutation of a step. -/
def permM (m : MacV) : List Int := (List.range (4 * m.gears).toNat).map fun (i : Nat) => nextM m i
theorem permM_len (m : MacV) : (permM m).length = (4 * m.gears).toNat := by simp [permM]
theorem permM_at {m : MacV} {s : Int} (h0 : 0 ≤ s) (h1 : s < 4 * m.gears) : atD 0 (permM m) s = nextM m s := by
 unfold permM atD
 have hs : s.toNat < (4 * m.gears).toNat := by omega
 rw [List.getD_eq_getElem?_getD, List.getElem?_map, List.getElem?_range hs]
 simp [Int.toNat_of_nonneg h0]
theorem permM_isP (m : MacV) : IsP (permM m) := by
 refine ⟨fun x h0 h1 => ?_, fun x y x0 x1 y0 y1 e => ?_⟩
 ·rw [permM_len] at h1
  rw [permM_at h0 (by omega), permM_len]
  have := next_rng (m := m) h0 (by omega)
  omega
 ·rw [permM_len] at x1 y1
  rw [permM_at x0 (by omega), permM_at y0 (by omega)] at e
  exact next_inj x0 (by omega) y0 (by omega) e
end Go.Proofs.YtddkdgodgflmlaaGreatDoor

namespace Go.Proofs.YtddkdgodgflmlaaGreatDoor
set_option maxRecDepth 100000

/-- where a carrier is after some steps. -/
def itM (m : MacV) (s : Int) (n : Nat) : Int := itP (permM m) s n
theorem itM_rng {m : MacV} {s : Int} (h0 : 0 ≤ s) (h1 : s < 4 * m.gears) (n : Nat) : 0 ≤ itM m s n ∧ itM m s n < 4 * m.gears := by
 have := itP_rng (permM_isP m) h0 (by rw [permM_len]; omega) n
 rw [permM_len] at this
 unfold itM
 omega
theorem itM_succ {m : MacV} {s : Int} (h0 : 0 ≤ s) (h1 : s < 4 * m.gears) (n : Nat) : itM m s (n + 1) = nextM m (itM m s n) := by
 have h := itM_rng h0 h1 n
 unfold itM at h ⊢
 rw [itP, permM_at h.1 h.2]
theorem ordM {m : MacV} {s : Int} (h0 : 0 ≤ s) (h1 : s < 4 * m.gears) : ∃ d, Ord (permM m) s d := ord_ex (permM_isP m) h0 (by rw [permM_len]; omega)
theorem itM_mod {m : MacV} {s : Int} {d : Nat} (h : Ord (permM m) s d) (n : Nat) : itM m s (n % d) = itM m s n := by
 have e : n = n % d + n / d * d := by have := Nat.mod_add_div n d; rw [Nat.mul_comm] at this; omega
 unfold itM
 conv => rhs; rw [e, itP_add, itP_mul h.back]
end Go.Proofs.YtddkdgodgflmlaaGreatDoor

namespace Go.Proofs.YtddkdgodgflmlaaGreatDoor
open Go.RowKit
set_option maxHeartbeats 2000000
set_option maxRecDepth 100000

abbrev mC (m : MacV) (ad : Option Addr) (cap : Nat) : Array Value := #[.bool m.ring, .int .i64 m.gears, .int .i64 m.turn, .slice ad m.sw.length cap]
abbrev mV (m : MacV) (ad : Option Addr) (cap : Nat) : Value := .agg #[.bool m.ring, .int .i64 m.gears, .int .i64 m.turn, .slice ad m.sw.length cap]
theorem A_mach : Aggr Tryz.prog 45 := ⟨_, Tryz.underlying45, rfl⟩
theorem F_boolM : Flat Tryz.prog 4 := ⟨_, Tryz.underlying4, rfl⟩
theorem F_sliceM : Flat Tryz.prog 22 := ⟨_, Tryz.underlying22, rfl⟩
theorem A_two : Aggr Tryz.prog 69 := ⟨_, Tryz.underlying69, rfl⟩

theorem mwhen_any (b : Bool) (e : Int) (w : World) :
  Calls Tryz.prog 68 #[.bool b, .int .i64 e] w fun r w' => r = .returned (.int .i64 (if b then e else 0)) ∧ w = w' := by
 cases b
 ·go_enter Tryz.func68, Tryz.ntmps68
  go_wp2
  go_ret
  exact ⟨rfl, rfl⟩
 ·go_enter Tryz.func68, Tryz.ntmps68
  go_wp2
  go_ret
  exact ⟨rfl, rfl⟩
theorem mfirst_any (a : Option Addr) (cap : Nat) (l : List Int) (w : World) (h : Ints w a cap l) :
  Calls Tryz.prog 66 #[.slice a l.length cap] w fun r w' => r = .returned (.int .i64 (firstE l)) ∧ w = w' := by
 have hcap := h.le
 have hm := h.max
 go_enter Tryz.func66, Tryz.ntmps66
 go_wp2
 go_loop [7] (fun i => ∃ k : Nat, k ≤ l.length ∧ i = .int .i64 k ∧ firstE (l.drop k) = firstE l) (fun i => l.length - (intOf i).toNat)
 case atStart => exact ⟨0, by omega, rfl, by simp⟩
 case round =>
  obtain ⟨k, hk, rfl, hf⟩ := hrel
  by_cases hlt : k < l.length
  ·have hs := firstE_drop l k hlt
   have HF := hid hf; clear hf
   have HS := hid hs; clear hs
   go_wp2_with (with_reducible refine wpList_idx _ 0 E_errs F_err cInt1 wU wU (h) oD oD (fun _ => wU) (fun _ => ?_))
   ·go_ret
    have h1 : (atD 0 l k != 0) = true := by assumption
    refine ⟨?_, rfl⟩
    have := HS.out; rw [HF.out, h1, if_pos rfl] at this; rw [this]; rfl
   ·go_round
    case rel =>
     have h1 : (atD 0 l k != 0) = false := by assumption
     refine ⟨k + 1, by omega, by go_num, ?_⟩
     have := HS.out; rw [HF.out, h1] at this; exact this.symm
    case measure => simp [intOf]; omega
  ·have : k = l.length := by omega
   subst this
   rw [firstE_end] at hf
   have HF := hid hf; clear hf
   go_wp2
   go_ret
   exact ⟨by rw [← HF.out]; rfl, rfl⟩
theorem btoi_any (b : Bool) (w : World) :
  Calls Tryz.prog 178 #[.bool b] w fun r w' => r = .returned (.int .i64 (if b then 1 else 0)) ∧ w = w' := by
 cases b
 ·go_enter Tryz.func178, Tryz.ntmps178
  go_wp2
  go_ret
  exact ⟨rfl, rfl⟩
 ·go_enter Tryz.func178, Tryz.ntmps178
  go_wp2
  go_ret
  exact ⟨rfl, rfl⟩
theorem slots_any (m : MacV) (ad : Option Addr) (cap : Nat) (w : World) (h0 : 0 ≤ m.gears) (h1 : m.gears ≤ 16) :
  Calls Tryz.prog 57 #[mV m ad cap] w fun r w' => r = .returned (.int .i64 (4 * m.gears)) ∧ Below w.heap.size w w' := by
 go_enter Tryz.func57, Tryz.ntmps57
 go_wp2_with fail
 go_ret
 exact ⟨rfl, bal (Below.refl _ _) _⟩
theorem forwards_any (m : MacV) (ad : Option Addr) (cap : Nat) (g : Int) (w : World) (h0 : 0 ≤ g) (h1 : g ≤ 1048576) :
  Calls Tryz.prog 111 #[mV m ad cap, .int .i64 g] w fun r w' => r = .returned (.bool (fwdM m g)) ∧ Below w.heap.size w w' := by
 obtain ⟨q, hq⟩ : ∃ q, q = g % 2 := ⟨_, rfl⟩
 have htm : g.tmod 2 = q := by rw [hq, Int.tmod_eq_emod_of_nonneg h0]
 have hf : fwdM m g = ((m.turn == 1) == (q == 0)) := by unfold fwdM; rw [hq]
 have hq2 : 0 ≤ q ∧ q < 2 := by omega
 have HF := hid hf
 clear hf hq
 go_enter Tryz.func111, Tryz.ntmps111
 go_wp2_with fail
 go_ret
 exact ⟨by rw [HF.out]; rfl, bal (Below.refl _ _) _⟩
theorem shared_any (m : MacV) (ad : Option Addr) (cap : Nat) (p : Int) (w : World) :
  Calls Tryz.prog 110 #[mV m ad cap, .int .i64 p] w fun r w' => r = .returned (.bool (sharedM m p)) ∧ Below w.heap.size w w' := by
 by_cases h0 : 0 ≤ p
 ·by_cases h1 : p < m.gears
  ·cases hr : m.ring
   ·have hs : sharedM m p = decide (0 < p) := by unfold sharedM; simp [h0, h1, hr]
    have HS := hid hs; clear hs
    go_enter Tryz.func110, Tryz.ntmps110
    go_wp2_with fail
    go_ret
    exact ⟨by rw [HS.out]; rfl, bal (Below.refl _ _) _⟩
   ·have hs : sharedM m p = true := by unfold sharedM; simp [h0, h1, hr]
    have HS := hid hs; clear hs
    go_enter Tryz.func110, Tryz.ntmps110
    go_wp2_with fail
    go_ret
    exact ⟨by rw [HS.out]; rfl, bal (Below.refl _ _) _⟩
  ·have hs : sharedM m p = false := by unfold sharedM; simp [h1]
   have HS := hid hs; clear hs
   go_enter Tryz.func110, Tryz.ntmps110
   go_wp2_with fail
   go_ret
   exact ⟨by rw [HS.out]; rfl, bal (Below.refl _ _) _⟩
 ·have hs : sharedM m p = false := by unfold sharedM; simp [h0]
  have HS := hid hs; clear hs
  go_enter Tryz.func110, Tryz.ntmps110
  go_wp2_with fail
  go_ret
  exact ⟨by rw [HS.out]; rfl, bal (Below.refl _ _) _⟩
theorem place_any (m : MacV) (ad : Option Addr) (cap : Nat) (s : Int) (w : World) (hg : m.gears ≤ 16) (h0 : 0 ≤ s) (h1 : s < 4 * m.gears) :
  Calls Tryz.prog 149 #[mV m ad cap, .int .i64 s] w fun r w' => r = .returned (.int .i64 (placeM m s)) ∧ Below w.heap.size w w' := by
 obtain ⟨g, hgq⟩ : ∃ g, g = s / 4 := ⟨_, rfl⟩
 obtain ⟨q, hq⟩ : ∃ q, q = s % 4 := ⟨_, rfl⟩
 have htd : s.tdiv 4 = g := by rw [hgq, Int.tdiv_eq_ediv_of_nonneg h0]
 have htm : s.tmod 4 = q := by rw [hq, Int.tmod_eq_emod_of_nonneg h0]
 have hp := place_prog h0 h1
 have hpl : placeM m s = if q = 0 then g else if q = 2 then (if m.ring = true ∧ g + 1 = m.gears then 0 else g + 1) else -1 := by unfold placeM; rw [hq, hgq]
 rw [← hgq] at hp
 have hq4 : q = 0 ∨ q = 1 ∨ q = 2 ∨ q = 3 := by omega
 have hg0 : 0 ≤ g ∧ g < m.gears := by omega
 rcases hq4 with rfl | rfl | rfl | rfl
 ·rw [if_pos rfl] at hpl
  have HP := hid hpl
  clear hpl hp hq hgq
  go_enter Tryz.func149, Tryz.ntmps149
  go_wp2_with fail
  go_ret
  exact ⟨by rw [HP.out]; rfl, bal (Below.refl _ _) _⟩
 ·rw [if_neg (by decide), if_neg (by decide)] at hpl
  have HP := hid hpl
  clear hpl hp hq hgq
  go_enter Tryz.func149, Tryz.ntmps149
  go_wp2_with fail
  go_ret
  exact ⟨by rw [HP.out]; rfl, bal (Below.refl _ _) _⟩
 ·rw [if_neg (by decide), if_pos rfl, ← hp] at hpl
  obtain ⟨P, hP⟩ : ∃ P, P = placeM m s := ⟨_, rfl⟩
  rw [← hP] at hpl ⊢
  have hPb : 0 ≤ P ∧ P ≤ 64 := by
   rw [hpl]
   have a := Int.emod_nonneg (g + 1) (b := m.gears + (if m.ring = true then 0 else 1)) (by split <;> omega)
   have b := Int.emod_lt_of_pos (g + 1) (b := m.gears + (if m.ring = true then 0 else 1)) (by split <;> omega)
   refine ⟨a, ?_⟩
   split at b <;> omega
  cases hr : m.ring
  ·rw [hr] at hpl
   simp only [Bool.false_eq_true, if_false] at hpl
   have hmod : (g + 1).tmod (m.gears + 1) = P := by rw [hpl, Int.tmod_eq_emod_of_nonneg (by omega)]
   have hnz : ¬ m.gears + 1 = 0 := by omega
   have hw1 : IntKind.i64.wrap g = g := IntWalk.i64_in _ (by omega)
   have hw2 : IntKind.i64.wrap (g + 1) = g + 1 := IntWalk.i64_in _ (by omega)
   have hw3 : IntKind.i64.wrap (m.gears + 1) = m.gears + 1 := IntWalk.i64_in _ (by omega)
   have hw : IntKind.i64.wrap P = P := IntWalk.i64_in _ (by omega)
   clear hpl hp hq hgq hP hPb
   go_enter Tryz.func149, Tryz.ntmps149
   go_wp2_with fail
   have hS := (SL.nil w).box (.cells #[.bool false, .int .i64 m.gears, .int .i64 m.turn, .slice ad m.sw.length cap] 45)
   have q1 := (hS.blk 0 rfl).1
   refine wp_region_q kR kR ?_
   repeat (first | ((with_reducible refine wpB_load F_boolM wU wU q1 wU ?_); (try simp only [Act.put, pA, pB, pC])) | ((refine wpB_call (.int .i64 1) wU (fun w' => ?_) (fun w' hw' => calls_below (btoi_any true w')) ?_); (focus (go_simp; done)); (try simp only [Act.put, pA, pB, pC])) |  ((with_reducible refine wpB_load (by first | exact F_int | exact F_u64s) wU wU (by assumption) wU ?_); (try simp only [Act.put, pA, pB, pC])) | ((refine wpQ_oneG ?_ wU (fun w' => ?_) ?_); rotate_left; (go_simp; rfl); (try simp only [Act.put, pA, pB, pC])))
   refine wpQuiet_nil ?_
   intro w1 hb1
   go_wp2_with fail
   go_ret
   exact ⟨rfl, bnext hS.b hb1⟩
  ·rw [hr] at hpl
   simp only [if_true, Int.add_zero] at hpl
   have hmod : (g + 1).tmod (m.gears) = P := by rw [hpl, Int.tmod_eq_emod_of_nonneg (by omega)]
   have hnz : ¬ m.gears = 0 := by omega
   have hw1 : IntKind.i64.wrap g = g := IntWalk.i64_in _ (by omega)
   have hw2 : IntKind.i64.wrap (g + 1) = g + 1 := IntWalk.i64_in _ (by omega)
   have hw3 : IntKind.i64.wrap m.gears = m.gears := IntWalk.i64_in _ (by omega)
   have hw : IntKind.i64.wrap P = P := IntWalk.i64_in _ (by omega)
   clear hpl hp hq hgq hP hPb
   go_enter Tryz.func149, Tryz.ntmps149
   go_wp2_with fail
   have hS := (SL.nil w).box (.cells #[.bool true, .int .i64 m.gears, .int .i64 m.turn, .slice ad m.sw.length cap] 45)
   have q1 := (hS.blk 0 rfl).1
   refine wp_region_q kR kR ?_
   repeat (first | ((with_reducible refine wpB_load F_boolM wU wU q1 wU ?_); (try simp only [Act.put, pA, pB, pC])) | ((refine wpB_call (.int .i64 0) wU (fun w' => ?_) (fun w' hw' => calls_below (btoi_any false w')) ?_); (focus (go_simp; done)); (try simp only [Act.put, pA, pB, pC])) |  ((with_reducible refine wpB_load (by first | exact F_int | exact F_u64s) wU wU (by assumption) wU ?_); (try simp only [Act.put, pA, pB, pC])) | ((refine wpQ_oneG ?_ wU (fun w' => ?_) ?_); rotate_left; (go_simp; rfl); (try simp only [Act.put, pA, pB, pC])))
   refine wpQuiet_nil ?_
   intro w1 hb1
   go_wp2_with fail
   go_ret
   exact ⟨rfl, bnext hS.b hb1⟩
 ·rw [if_neg (by decide), if_neg (by decide)] at hpl
  have HP := hid hpl
  clear hpl hp hq hgq
  go_enter Tryz.func149, Tryz.ntmps149
  go_wp2_with fail
  go_ret
  exact ⟨by rw [HP.out]; rfl, bal (Below.refl _ _) _⟩
end Go.Proofs.YtddkdgodgflmlaaGreatDoor

namespace Go.Proofs.YtddkdgodgflmlaaGreatDoor
open Go.RowKit
set_option maxHeartbeats 2000000
set_option maxRecDepth 100000

/-- the first index of a number, or -1. -/
def idxL (l : List Int) (x : Int) : Int := if l.findIdx (· == x) < l.length then l.findIdx (· == x) else -1
theorem idxL_found {l : List Int} {x : Int} {k : Nat} (hk : k < l.length) (h : atD 0 l k = x) (hno : ∀ j : Nat, j < k → atD 0 l j ≠ x) : idxL l x = k := by
 have hat : ∀ (j : Nat) (hj : j < l.length), atD 0 l j = l[j] := fun j hj => by simp [atD, hj]
 have e : l.findIdx (· == x) = k := by
  rw [List.findIdx_eq hk]
  refine ⟨by rw [← hat k hk, h]; simp, fun j hj => ?_⟩
  have := hno j hj
  rw [hat j (by omega)] at this
  simpa using this
 unfold idxL
 rw [e, if_pos hk]
theorem idxL_none {l : List Int} {x : Int} (hno : ∀ j : Nat, j < l.length → atD 0 l j ≠ x) : idxL l x = -1 := by
 have e : l.findIdx (· == x) = l.length := by
  rw [List.findIdx_eq_length]
  intro y hy
  obtain ⟨i, hi, rfl⟩ := List.mem_iff_getElem.1 hy
  have := hno i hi
  simp [atD, hi] at this
  simpa using this
 unfold idxL
 rw [e, if_neg (by omega)]
theorem idxL_contains (l : List Int) (x : Int) : decide (0 ≤ idxL l x) = l.contains x := by
 by_cases h : ∃ k : Nat, k < l.length ∧ atD 0 l k = x
 ·have hm : x ∈ l := by obtain ⟨k, hk, e⟩ := h; rw [← e]; simp [atD, hk]
  have hlt : l.findIdx (· == x) < l.length := List.findIdx_lt_length_of_exists ⟨x, hm, by simp⟩
  unfold idxL
  rw [if_pos hlt]
  simp [hm]
 ·have hno : ∀ j : Nat, j < l.length → atD 0 l j ≠ x := fun j hj e => h ⟨j, hj, e⟩
  have hm : x ∉ l := fun hm => by
   obtain ⟨i, hi, e⟩ := List.mem_iff_getElem.1 hm
   exact hno i hi (by simp [atD, hi, e])
  rw [idxL_none hno]
  simp [hm]

theorem sIndex_any (a : Option Addr) (cap : Nat) (l : List Int) (x : Int) (w : World) (h : Ints w a cap l) :
  Calls Tryz.prog 97 #[.slice a l.length cap, .int .i64 x] w fun r w' => r = .returned (.int .i64 (idxL l x)) ∧ w = w' := by
 have hcap := h.le
 have hm := h.max
 go_enter Tryz.func97, Tryz.ntmps97
 go_wp2
 go_loop [8, 5] (fun i _ => ∃ k : Nat, k ≤ l.length ∧ i = .int .i64 k ∧ ∀ j : Nat, j < k → atD 0 l j ≠ x) (fun i _ => l.length - (intOf i).toNat)
 case atStart => exact ⟨0, by omega, rfl, fun j hj => by omega⟩
 case round =>
  obtain ⟨k, hk, rfl, hno⟩ := hrel
  by_cases hlt : k < l.length
  ·have HN := hid hno; clear hno
   by_cases e : atD 0 l k = x
   ·have hd : (x == atD 0 l k) = true := by simp [e]
    have hf := idxL_found hlt e HN.out
    have HF := hid hf; clear hf e
    go_wp2_with (with_reducible refine wpList_idx _ 0 E_ints F_int cInt1 wU wU (h) oD oD (fun _ => wU) (fun _ => ?_))
    go_ret
    exact ⟨by rw [HF.out]; rfl, rfl⟩
   ·have hd : (x == atD 0 l k) = false := by simpa using fun h => e h.symm
    have HE := hid e; clear e
    go_wp2_with (with_reducible refine wpList_idx _ 0 E_ints F_int cInt1 wU wU (h) oD oD (fun _ => wU) (fun _ => ?_))
    go_round
    case rel =>
     refine ⟨k + 1, by omega, by go_num, fun j hj => ?_⟩
     by_cases e : j = k
     ·subst e; exact HE.out
     ·exact HN.out j (by omega)
    case measure => simp [intOf]; omega
  ·have hkl : k = l.length := by omega
   subst hkl
   have hf := idxL_none hno
   have HF := hid hf; clear hf hno
   go_wp2
   go_ret
   exact ⟨by rw [HF.out]; rfl, rfl⟩
theorem sContains_any (a : Option Addr) (cap : Nat) (l : List Int) (x : Int) (w : World) (h : Ints w a cap l) :
  Calls Tryz.prog 120 #[.slice a l.length cap, .int .i64 x] w fun r w' => r = .returned (.bool (l.contains x)) ∧ w = w' := by
 have hc := idxL_contains l x
 have HI := hid (fun w h => sIndex_any a cap l x w h)
 obtain ⟨i, hi⟩ : ∃ i, i = idxL l x := ⟨_, rfl⟩
 rw [← hi] at hc HI
 have HC := hid hc
 clear hc hi
 go_enter Tryz.func120, Tryz.ntmps120
 go_wp2_with (go_at_call 97; refine (HI.out _ h).mono ?_; rintro e w' ⟨rfl, rfl⟩)
 go_ret
 exact ⟨by rw [← HC.out]; rfl, rfl⟩

theorem pair_any (m : MacV) (ad : Option Addr) (cap : Nat) (p : Int) (w : World) (hg : m.gears ≤ 16) (h0 : 0 ≤ p) (h1 : p < m.gears) :
  Calls Tryz.prog 150 #[mV m ad cap, .int .i64 p] w fun r w' => r = .returned (.agg #[.int .i64 (4 * befM m p + 2), .int .i64 (4 * p)]) ∧ Below w.heap.size w w' := by
 obtain ⟨B, hB⟩ : ∃ B, B = befM m p := ⟨_, rfl⟩
 have hbp := bef_prog h0 h1
 have hmod : (p + m.gears - 1).tmod m.gears = B := by rw [Int.tmod_eq_emod_of_nonneg (by omega), hbp, hB]
 have hnz : ¬ m.gears = 0 := by omega
 have hB0 : 0 ≤ B ∧ B < m.gears := by rw [hB]; unfold befM; split <;> omega
 have hw : IntKind.i64.wrap B = B := IntWalk.i64_in _ (by omega)
 rw [← hB]
 clear hbp hB
 go_enter Tryz.func150, Tryz.ntmps150
 have hS := ((SL.nil w).box (.cells (mC m ad cap) 45)).box (.cells #[.int .i64 0, .int .i64 0] 69)
 simp only [World.size_alloc] at hS
 go_wp2_with ((with_reducible refine wpList_stoR (us := #[.int .i64 (4 * B + 2), .int .i64 (4 * p)]) 0 wU wU (hS) wU kR wU wU ?_); intro w1 hS1)
 exact bodyPost_ret (results_cell rfl rfl A_two kR (hS1.blk 0 rfl).1) rfl ⟨rfl, hS1.b⟩
theorem over_any (m : MacV) (ad : Option Addr) (cap : Nat) (s : Int) (w : World) (hR : Ints w ad cap m.sw) (hg : m.gears ≤ 16) (h0 : 0 ≤ s) (h1 : s < 4 * m.gears) :
  Calls Tryz.prog 112 #[mV m ad cap, .int .i64 s] w fun r w' => r = .returned (.int .i64 (overM m s)) ∧ Below w.heap.size w w' := by
 have CP := fun w => place_any m ad cap s w hg h0 h1
 have hov : overM m s = if goesM m s then 4 * befM m (placeM m s) + 2 + 4 * placeM m s - s else s := rfl
 have hgo : goesM m s = (decide (0 ≤ placeM m s) && sharedM m (placeM m s) && !m.sw.contains (placeM m s)) := rfl
 obtain ⟨O, hO⟩ : ∃ O, O = overM m s := ⟨_, rfl⟩
 obtain ⟨p, hp⟩ : ∃ p, p = placeM m s := ⟨_, rfl⟩
 obtain ⟨gs, hgs⟩ : ∃ g, g = goesM m s := ⟨_, rfl⟩
 rw [← hO, ← hgs, ← hp] at hov
 rw [← hgs, ← hp] at hgo
 rw [← hp] at CP
 rw [← hO]
 have CS := fun w => shared_any m ad cap p w
 have CC := fun w (h : Ints w ad cap m.sw) => sContains_any ad cap m.sw p w h
 have hcap := hR.le
 have hmx := hR.max
 have HP := hid CP; have HC := hid CC
 have hS := (SL.nil w).box (.cells (mC m ad cap) 45)
 clear CP CC hO hgs hp
 by_cases hp0 : 0 ≤ p
 ·have hpd : decide (p < 0) = false := decide_eq_false (by omega)
  have hpn : ¬ p < 0 := by omega
  cases hsh : sharedM m p
  ·have : gs = false := by rw [hgo, hsh]; simp
   rw [this] at hov
   simp only [Bool.false_eq_true, if_false] at hov
   rw [hsh] at CS
   have HS := hid CS
   subst hov
   clear CS hsh hgo this
   go_enter Tryz.func112, Tryz.ntmps112
   go_wp2_with fail
   refine (HP.out _).mono ?_
   rintro e w1 ⟨rfl, b1⟩
   have hS1 := hS.mono b1
   have q1 := (hS1.blk 0 rfl).1
   go_wp2_with (with_reducible refine wpList_ldS (n := 4) (us := mC m ad cap) A_mach kR wU wU (by assumption) wU wU ?_)
   refine (HS.out _).mono ?_
   rintro e w2 ⟨rfl, b2⟩
   have hS2 := hS1.mono b2
   go_wp2_with fail
   go_ret
   exact ⟨rfl, hS2.b⟩
  ·rw [hsh] at CS
   have hp1 := (shared_iff.1 hsh).2.1
   have HS := hid CS
   clear CS
   cases hc : m.sw.contains p
   ·have : gs = true := by rw [hgo, hsh, hc]; simp [hp0]
    rw [this] at hov
    simp only [if_true] at hov
    have CC := HC.out
    rw [hc] at CC
    have HC2 := hid CC
    have CQ := fun w => pair_any m ad cap p w hg hp0 hp1
    obtain ⟨B, hB⟩ : ∃ B, B = befM m p := ⟨_, rfl⟩
    have hB0 : 0 ≤ B ∧ B < m.gears := by rw [hB]; unfold befM; split <;> omega
    rw [← hB] at CQ hov
    have HQ := hid CQ
    have HOV := hid hov
    clear CC HC CQ hov hB hsh hgo this hc
    go_enter Tryz.func112, Tryz.ntmps112
    go_wp2_with fail
    refine (HP.out _).mono ?_
    rintro e w1 ⟨rfl, b1⟩
    have hS1 := hS.mono b1
    have q1 := (hS1.blk 0 rfl).1
    go_wp2_with (with_reducible refine wpList_ldS (n := 4) (us := mC m ad cap) A_mach kR wU wU (by assumption) wU wU ?_)
    refine (HS.out _).mono ?_
    rintro e w2 ⟨rfl, b2⟩
    have hS2 := hS1.mono b2
    have q2 := (hS2.blk 0 rfl).1
    go_wp2_with (with_reducible refine wpList_ldB F_sliceM wU wU q2 wU ?_)
    refine (HC2.out _ (hR.below hS2.b)).mono ?_
    rintro e w' ⟨rfl, rfl⟩
    go_wp2_with (with_reducible refine wpList_ldS (n := 4) (us := mC m ad cap) A_mach kR wU wU (by assumption) wU wU ?_)
    refine (HQ.out _).mono ?_
    rintro e w3 ⟨rfl, b3⟩
    have hS3 := (hS2.mono b3)
    go_wp2_with fail
    go_ret
    exact ⟨by rw [HOV.out]; rfl, bal hS3.b _⟩
   ·have : gs = false := by rw [hgo, hsh, hc]; simp
    rw [this] at hov
    simp only [Bool.false_eq_true, if_false] at hov
    have CC := HC.out
    rw [hc] at CC
    have HC2 := hid CC
    subst hov
    clear CC HC hsh hgo this hc
    go_enter Tryz.func112, Tryz.ntmps112
    go_wp2_with fail
    refine (HP.out _).mono ?_
    rintro e w1 ⟨rfl, b1⟩
    have hS1 := hS.mono b1
    have q1 := (hS1.blk 0 rfl).1
    go_wp2_with (with_reducible refine wpList_ldS (n := 4) (us := mC m ad cap) A_mach kR wU wU (by assumption) wU wU ?_)
    refine (HS.out _).mono ?_
    rintro e w2 ⟨rfl, b2⟩
    have hS2 := hS1.mono b2
    have q2 := (hS2.blk 0 rfl).1
    go_wp2_with (with_reducible refine wpList_ldB F_sliceM wU wU q2 wU ?_)
    refine (HC2.out _ (hR.below hS2.b)).mono ?_
    rintro e w' ⟨rfl, rfl⟩
    go_wp2_with fail
    go_ret
    exact ⟨rfl, hS2.b⟩
 ·have : gs = false := by rw [hgo]; simp [hp0]
  rw [this] at hov
  simp only [Bool.false_eq_true, if_false] at hov
  subst hov
  clear CS hgo this
  go_enter Tryz.func112, Tryz.ntmps112
  go_wp2_with fail
  refine (HP.out _).mono ?_
  rintro e w1 ⟨rfl, b1⟩
  have hS1 := hS.mono b1
  go_wp2_with fail
  go_ret
  exact ⟨rfl, hS1.b⟩
theorem mnext_any (m : MacV) (ad : Option Addr) (cap : Nat) (s : Int) (w : World) (hR : Ints w ad cap m.sw) (hg : m.gears ≤ 16) (h0 : 0 ≤ s) (h1 : s < 4 * m.gears) :
  Calls Tryz.prog 58 #[mV m ad cap, .int .i64 s] w fun r w' => r = .returned (.int .i64 (nextM m s)) ∧ Below w.heap.size w w' := by
 obtain ⟨g, hgq⟩ : ∃ g, g = s / 4 := ⟨_, rfl⟩
 obtain ⟨q, hq⟩ : ∃ q, q = s % 4 := ⟨_, rfl⟩
 have htd : s.tdiv 4 = g := by rw [hgq, Int.tdiv_eq_ediv_of_nonneg h0]
 have htm : s.tmod 4 = q := by rw [hq, Int.tmod_eq_emod_of_nonneg h0]
 have hg0 : 0 ≤ g ∧ g < m.gears := by omega
 have hq0 : 0 ≤ q ∧ q < 4 := by omega
 have hrr := rot_rng (m := m) h0 h1
 have hro : rotM m s = 4 * g + (q + (if fwdM m g then 1 else 3)) % 4 := by unfold rotM; rw [hgq, hq]
 have CF := fun w => forwards_any m ad cap g w hg0.1 (by omega)
 have CO := fun w h => over_any m ad cap (rotM m s) w h hg hrr.1 hrr.2.1
 have hnx : nextM m s = overM m (rotM m s) := rfl
 rw [← hnx] at CO
 obtain ⟨N, hN⟩ : ∃ N, N = nextM m s := ⟨_, rfl⟩
 rw [← hN] at CO ⊢
 have hS := (SL.nil w).box (.cells (mC m ad cap) 45)
 have hcap := hR.le
 have hmx := hR.max
 cases hf : fwdM m g
 ·rw [hf] at CF hro
  simp only [Bool.false_eq_true, if_false] at hro
  rw [hro] at CO
  have hmd : (q + 3).tmod 4 = (q + 3) % 4 := Int.tmod_eq_emod_of_nonneg (by omega)
  obtain ⟨z, hz⟩ : ∃ z, z = (q + 3) % 4 := ⟨_, rfl⟩
  have hz0 : 0 ≤ z ∧ z < 4 := by omega
  rw [← hz] at hmd CO
  have HF := hid CF; have HO := hid CO
  clear CF CO hro hnx hN hrr hgq hq hz hf
  go_enter Tryz.func58, Tryz.ntmps58
  go_wp2_with fail
  refine (HF.out _).mono ?_
  rintro e w1 ⟨rfl, b1⟩
  have hS1 := hS.mono b1
  have q1 := (hS1.blk 0 rfl).1
  go_wp2_with (with_reducible refine wpList_ldS (n := 4) (us := mC m ad cap) A_mach kR wU wU (by assumption) wU wU ?_)
  refine (HO.out _ (hR.below hS1.b)).mono ?_
  rintro e w2 ⟨rfl, b2⟩
  go_wp2_with fail
  go_ret
  exact ⟨rfl, bnext hS1.b b2⟩
 ·rw [hf] at CF hro
  simp only [if_true] at hro
  rw [hro] at CO
  have hmd : (q + 1).tmod 4 = (q + 1) % 4 := Int.tmod_eq_emod_of_nonneg (by omega)
  obtain ⟨z, hz⟩ : ∃ z, z = (q + 1) % 4 := ⟨_, rfl⟩
  have hz0 : 0 ≤ z ∧ z < 4 := by omega
  rw [← hz] at hmd CO
  have HF := hid CF; have HO := hid CO
  clear CF CO hro hnx hN hrr hgq hq hz hf
  go_enter Tryz.func58, Tryz.ntmps58
  go_wp2_with fail
  refine (HF.out _).mono ?_
  rintro e w1 ⟨rfl, b1⟩
  have hS1 := hS.mono b1
  have q1 := (hS1.blk 0 rfl).1
  go_wp2_with (with_reducible refine wpList_ldS (n := 4) (us := mC m ad cap) A_mach kR wU wU (by assumption) wU wU ?_)
  refine (HO.out _ (hR.below hS1.b)).mono ?_
  rintro e w2 ⟨rfl, b2⟩
  go_wp2_with fail
  go_ret
  exact ⟨rfl, bnext hS1.b b2⟩
end Go.Proofs.YtddkdgodgflmlaaGreatDoor
