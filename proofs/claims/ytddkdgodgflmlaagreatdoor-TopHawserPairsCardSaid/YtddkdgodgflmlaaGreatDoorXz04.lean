/- Contracts and plain facts that the claim uses (MaD MaF MaG MaH MaI MaJ RtP RtM MaR MbF NrP AlA NrM ItA TpF MbJ MaC). Conditions: as each one states. -/
import Derived.RangeFuncNested
import Derived.RangeFuncBound
import Derived.RangeFuncCalls
import Derived.RangeFuncLeaves
import Derived.RangeFuncFrom
import Derived.Shelf.Abstract
import Derived.Shelf.RegionOpen
import Derived.WalkKit
import Derived.OwnWalkIn
import Derived.TacticsInMore
import Derived.LoopNIn
import Derived.LoopIn
import Derived.Test.YtddkdgodgflmlaaGreatDoorProg
import Derived.WalkSpells
import Derived.Maps.AppendAt
import Derived.Deep.Quiet
import Derived.Maps.Own
import Derived.Maps.OwnSet
import Derived.Maps.Views
import Derived.WalkLawsBesides
import Derived.Laws.EntriesVeiled
import Derived.Deep.QuietTactic
import Derived.BigQuiet
import Derived.Shelf.Strings.Trim
import Derived.Shelf.Strings.SlTrimAscii
import Derived.Shelf.Strings.Repeat
import Derived.Shelf.Strings.OnBuilder
import Derived.Shelf.Strconv.Itoa1
import Derived.Shelf.Strconv.Itoa3
import Derived.Shelf.LaysM
import Derived.Ground.Names2Prog
import Derived.Lib.OthersKept
import Derived.Deep.RegionHeld3
import Derived.Deep.AppendLies
import Derived.Deep.RegionHeldLaw
import Derived.Deep.RegionLaw
import Derived.StillTail
import Derived.Laws.Tables
import Derived.IntWalk
import Derived.Laws.CopyOwn
import Derived.BigRegion
import Derived.ChangeAlike
import Derived.Shelf.Bits.Mul64
import Derived.Lib.ItoaLen
import Derived.Lib.ItoaMem
import Derived.Sort.LoopGhostIn
import Derived.Maps.RangeWalk
import Derived.Maps.Ext
import Derived.Deep.LoopGhost
import Derived.Lib.AppendIntMem
import Derived.Lib.SmallJoins
import Derived.LaidSub
import Derived.Lib.LaidTab
import Derived.Lib.Split
import Derived.Lib.AtoiAll
import Derived.Lib.AtoiErrMem
import Derived.Stop.LaidErr
import Derived.ReadAgain
import Derived.ChangeSlices
import Derived.OpenShut
import Derived.ProofKit
import Derived.Deep.DeepHandedRow
import Derived.Deep.SlicePairs
import Derived.Test.YtddkdgodgflmlaaGreatDoorXz01
import Derived.Test.YtddkdgodgflmlaaGreatDoorXz02
import Derived.Test.YtddkdgodgflmlaaGreatDoorXz03
set_option linter.all false

namespace Go.Proofs.YtddkdgodgflmlaaGreatDoor
open Go.RowKit
set_option maxHeartbeats 8000000
set_option maxRecDepth 100000

theorem permM_step (m : MacV) (k : Nat) (h : k < (permM m).length) : (permM m).take (k + 1) = (permM m).take k ++ [nextM m k] := by
 rw [List.take_succ_eq_append_getElem h]
 simp [permM]
theorem mperm_any (m : MacV) (ad : Option Addr) (cap : Nat) (w : World) (hR : Ints w ad cap m.sw) (hg0 : 1 ≤ m.gears) (hg : m.gears ≤ 16) :
  Calls Tryz.prog 56 #[mV m ad cap] w fun r w' => ∃ v, r = .returned v ∧ OwnI w.heap.size w' v (permM m) ∧ Below w.heap.size w w' := by
 have hcap := hR.le
 have hmx := hR.max
 have hl := permM_len m
 obtain ⟨n, hn⟩ : ∃ n : Nat, (4 * m.gears) = n := ⟨(4 * m.gears).toNat, by omega⟩
 rw [hn, Int.toNat_natCast] at hl
 have CS := fun w => slots_any m ad cap w (by omega) hg
 rw [hn] at CS
 have CN := fun (k : Nat) w (h : Ints w ad cap m.sw) (hk : k < n) => mnext_any m ad cap k w h hg (by omega) (by omega)
 have hS := (SL.nil w).box (.cells (mC m ad cap) 45)
 have HS := hid CS; have HN := hid CN; have HL := hid hl
 have hn64 : n ≤ 64 := by omega
 clear CS CN hl hn
 go_enter Tryz.func56, Tryz.ntmps56
 go_wp2_with fail
 refine (HS.out _).mono ?_
 rintro e w1 ⟨rfl, b1⟩
 have hS1 := (hS.mono b1).nilS (α := Int) (e := 3) cIntS
 go_wp2_with fail
 go_loopw [7, 4, 3] (fun i _ v wr => ∃ k : Nat, k ≤ n ∧ i = .int .i64 k ∧ SL w.heap.size w wr [pOwn cInt 1 3 v ((permM m).take k), pBlk w.heap.size (.cells (mC m ad cap) 45)]) (fun i _ _ _ => n - (intOf i).toNat)
 case atStart => exact ⟨0, by omega, rfl, hS1⟩
 case round =>
  clear hS1 hS
  obtain ⟨k, hk, rfl, hSr⟩ := hrel
  have q1 := (hSr.blk 1 rfl).1
  by_cases hlt : k < n
  ·have hs := permM_step m k (by rw [HL.out]; exact hlt)
   have hle : ((permM m).take k).length ≤ 64 := by rw [List.length_take, HL.out]; omega
   have HST := hid hs; clear hs
   go_wp2_with (with_reducible refine wpList_ldS (n := 4) (us := mC m ad cap) A_mach kR wU wU (by assumption) wU wU ?_)
   refine (HN.out k _ (hR.below hSr.b) hlt).mono ?_
   rintro e w4 ⟨rfl, b4⟩
   have hS4 := hSr.mono b4
   go_wp2_with ((with_reducible refine wpList_pushL (y := (nextM m k)) 0 E_ints wU wU (hS4) wU cIntO ⟨rfl, rfl⟩ (by first | with_unfolding_all rfl | simp) wU (by first | omega | (simp; omega)) (by first | omega | (simp; omega)) ?_); intro v5 w5 hS5)
   exact ⟨⟨k + 1, by omega, by go_num, by rw [HST.out]; exact hS5⟩, by simp [intOf]; omega⟩
  ·have hkn : k = n := by omega
   subst hkn
   have et : (permM m).take k = permM m := List.take_of_length_le (by rw [HL.out]; omega)
   rw [et] at hSr
   clear et
   go_wp2_with fail
   go_ret
   exact ⟨_, rfl, hSr.own 0 rfl, hSr.b⟩

section
variable {ops : Array Oper} {rest : List Oper} {a : Act} {Qa : Act → Prop} {w : World} {d : Option Tmp} {ty : TypeId} {p : String} {af : Array Edge} {g : Option (Nat × Bool)} {x y : Operand} {ts : Array TypeId} {b : Bool} {e : Int}
/-- 'when' in a quiet region. -/
theorem wpB_when (hx : a.eval x = .bool b) (hy : a.eval y = .int .i64 e) (hg : Region.wanted (⟨d, .call { callee := .value (.func 68), args := #[x, y], argTypes := ts }, ty, p, af, g⟩ : Oper) (yielded ops a.tmps) = true)
  (h : wpQuiet Tryz.prog ops (Below w.heap.size w) Qa rest (a.put d (.int .i64 (if b then e else 0)))) :
  wpQuiet Tryz.prog ops (Below w.heap.size w) Qa (⟨d, .call { callee := .value (.func 68), args := #[x, y], argTypes := ts }, ty, p, af, g⟩ :: rest) a := by
 refine wpB_call (f := 68) (args := #[.bool b, .int .i64 e]) (.int .i64 (if b then e else 0)) hg (fun w' => ?_) (fun w' _ => calls_below (mwhen_any b e w')) h
 have e1 : a.eval (.func 68) = .func (.func 68) #[] #[] := rfl
 generalize a.eval = ev at hx hy e1
 simp [execOp, resolve, invoke, hx, hy, e1, Deferred.ofValue, go_sem, Tryz.func68]
end

theorem firstE_head {a : Int} {l : List Int} (h : a ≠ 0) : firstE (a :: l) = a := by rw [firstE_cons]; simp [h]
theorem firstE_z (l : List Int) : firstE (0 :: l) = firstE l := by rw [firstE_cons]; simp
theorem swGo_step (m : MacV) (k : Nat) (h : k < m.sw.length) (o : Option Int) : swGo m o (m.sw.drop k) = if sharedM m (atD 0 m.sw k) = false then 10 else match o with
  | none => swGo m (some (atD 0 m.sw k)) (m.sw.drop (k + 1))
  | some b => if atD 0 m.sw k ≤ b then 11 else swGo m (some (atD 0 m.sw k)) (m.sw.drop (k + 1)) := by
 have e : m.sw.drop k = atD 0 m.sw k :: m.sw.drop (k + 1) := by rw [List.drop_eq_getElem_cons h]; simp [atD, h]
 rw [e]
 cases o <;> rfl
end Go.Proofs.YtddkdgodgflmlaaGreatDoor

namespace Go.Proofs.YtddkdgodgflmlaaGreatDoor
open Go.RowKit
set_option maxHeartbeats 8000000
set_option maxRecDepth 100000

theorem intsTake {w : World} {a : Option Addr} {cap m : Nat} {r : List Int} (h : Ints w a cap r) (hm : m ≤ r.length) : Ints w a cap (r.take m) := by
 have h1 := h.le
 refine ⟨cIntS, by simp; omega, h.2.2.1, h.2.2.2.1, fun j u hj => ?_⟩
 have e : ∀ L : List Int, (L.flatMap fun x => (cInt x).cells.toList) = L.map cInt := by
  intro L
  induction L with
  | nil => rfl
  | cons x r ih => rw [List.flatMap_cons, ih]; rfl
 refine h.2.2.2.2 j u ?_
 rw [e] at hj ⊢
 rw [List.map_take, List.getElem?_take] at hj
 split at hj
 ·exact hj
 ·cases hj
theorem take_snoc {l : List Int} {j : Nat} (h : j < l.length) : l.take (j + 1) = l.take j ++ [atD 0 l j] := by
 rw [List.take_succ_eq_append_getElem h]
 simp [atD, h]
end Go.Proofs.YtddkdgodgflmlaaGreatDoor

namespace Go.Proofs.YtddkdgodgflmlaaGreatDoor
open Go.RowKit
set_option maxHeartbeats 8000000
set_option maxRecDepth 100000

theorem after_any (m : MacV) (ad : Option Addr) (cap : Nat) (s n : Int) (w : World) (hR : Ints w ad cap m.sw) (hg : m.gears ≤ 16) (h0 : 0 ≤ s) (h1 : s < 4 * m.gears) (n0 : 0 ≤ n) (n1 : n ≤ 9223372036854775807) :
  Calls Tryz.prog 71 #[mV m ad cap, .int .i64 s, .int .i64 n] w fun r w' => r = .returned (.int .i64 (itM m s n.toNat)) ∧ Below w.heap.size w w' := by
 obtain ⟨d, hd⟩ := ordM h0 h1
 have hd0 := hd.pos
 have hdl := hd.le
 rw [permM_len] at hdl
 have hd64 : d ≤ 64 := by omega
 have CN := fun (k : Nat) w (h : Ints w ad cap m.sw) => mnext_any m ad cap (itM m s k) w h hg (itM_rng h0 h1 k).1 (itM_rng h0 h1 k).2
 have CE := fun (k : Nat) => itM_succ h0 h1 k
 have hback : itM m s d = s := hd.back
 have hmin : ∀ k, 0 < k → k < d → itM m s k ≠ s := fun k a b => hd.min k a b
 have hmod := itM_mod hd n.toNat
 have hmd : n.tmod d = ((n.toNat % d : Nat) : Int) := by
  rw [Int.tmod_eq_emod_of_nonneg n0]
  obtain ⟨k, rfl⟩ : ∃ k : Nat, n = k := ⟨n.toNat, by omega⟩
  simp
 obtain ⟨r, hr⟩ : ∃ r, r = n.toNat % d := ⟨_, rfl⟩
 rw [← hr] at hmod hmd
 have hrd : r < d := by rw [hr]; exact Nat.mod_lt _ hd0
 have hs0 : itM m s 0 = s := rfl
 have hS := (SL.nil w).box (.cells (mC m ad cap) 45)
 have HN := hid CN; have HE := hid CE; have HB := hid hback; have HM := hid hmin; have HO := hid hmod
 clear CN CE hback hmin hmod hd hdl hr
 rw [← HO.out]
 have CZ := HN.out 0
 rw [hs0, ← hs0, ← HE.out 0, hs0] at CZ
 have HZ := hid CZ
 clear CZ
 go_enter Tryz.func71, Tryz.ntmps71
 go_wp2_with fail
 have q1 := (hS.blk 0 rfl).1
 refine (HZ.out _ (hR.below hS.b)).mono ?_
 rintro e w1 ⟨rfl, b1⟩
 have hS1 := hS.mono b1
 clear q1
 go_wp2_with fail
 go_loopw [7, 8] (fun n x wr => ∃ k : Nat, 1 ≤ k ∧ k ≤ d ∧ n = .int .i64 k ∧ x = .int .i64 (itM m s k) ∧ SL w.heap.size w wr [pBlk w.heap.size (.cells (mC m ad cap) 45)]) (fun n _ _ => d - (intOf n).toNat)
 case atStart => exact ⟨1, by omega, by omega, rfl, rfl, hS1⟩
 case round =>
  clear hS hS1
  obtain ⟨k, hk1, hk2, rfl, rfl, hSr⟩ := hrel
  by_cases hkd : k < d
  ·have hne : (itM m s k != s) = true := by simpa using HM.out k (by omega) hkd
   have q1 := (hSr.blk 0 rfl).1
   have C := fun w h => HN.out k w h
   rw [← HE.out k] at C
   have HC := hid C
   clear C
   go_wp2_with (with_reducible refine wpList_ldS (n := 4) (us := mC m ad cap) A_mach kR wU wU (by assumption) wU wU ?_)
   refine (HC.out _ (hR.below hSr.b)).mono ?_
   rintro e w2 ⟨rfl, b2⟩
   have hS2 := hSr.mono b2
   go_wp2_with fail
   exact ⟨⟨k + 1, by omega, by omega, by go_num, rfl, hS2⟩, by simp [intOf]; omega⟩
  ·have hkk : k = d := by omega
   subst hkk
   rw [HB.out]
   have hne : (s != s) = false := by simp
   have hz : ((k : Int) == 0) = false := by simp; omega
   go_wp2_with fail
   go_loopw [1, 23] (fun x i wq => ∃ j : Nat, j ≤ r ∧ i = .int .i64 j ∧ x = .int .i64 (itM m s j) ∧ SL w.heap.size w wq [pBlk w.heap.size (.cells (mC m ad cap) 45)]) (fun _ i _ => r - (intOf i).toNat)
   case atStart => exact ⟨0, by omega, rfl, rfl, hSr⟩
   case round =>
    clear hSr
    obtain ⟨j, hj, rfl, rfl, hSq⟩ := hrel
    by_cases hjr : j < r
    ·have q1 := (hSq.blk 0 rfl).1
     have C := fun w h => HN.out j w h
     rw [← HE.out j] at C
     have HC := hid C
     clear C
     go_wp2_with (with_reducible refine wpList_ldS (n := 4) (us := mC m ad cap) A_mach kR wU wU (by assumption) wU wU ?_)
     refine (HC.out _ (hR.below hSq.b)).mono ?_
     rintro e w2 ⟨rfl, b2⟩
     have hS2 := hSq.mono b2
     go_wp2_with fail
     exact ⟨⟨j + 1, by omega, by go_num, rfl, hS2⟩, by simp [intOf]; omega⟩
    ·have hjj : j = r := by omega
     subst hjj
     go_wp2_with fail
     go_ret
     exact ⟨rfl, hSq.b⟩
end Go.Proofs.YtddkdgodgflmlaaGreatDoor

namespace Go.Proofs.YtddkdgodgflmlaaGreatDoor
open Go.RowKit
set_option maxHeartbeats 8000000
set_option maxRecDepth 100000

def ChkM (m : MacV) (ad : Option Addr) (cap : Nat) : Prop := ∀ w, Ints w ad cap m.sw → Calls Tryz.prog 55 #[mV m ad cap] w fun r w' => r = .returned (.int .i64 (macE m)) ∧ Below w.heap.size w w'
/-- the error of a load. -/
def loadGo (m : MacV) : List Int → List Int → Int
 | _, [] => 0
 | pre, s :: r => if s < 0 ∨ 4 * m.gears ≤ s then 10 else if s ∈ pre then 9 else loadGo m (pre ++ [s]) r
def loadE (m : MacV) (l : List Int) : Int := if macE m ≠ 0 then macE m else if 4 * m.gears < l.length then 5 else loadGo m [] l
def ChkL (m : MacV) (ad : Option Addr) (cap : Nat) (al : Option Addr) (cl : Nat) (l : List Int) : Prop := ∀ w, Ints w ad cap m.sw → Ints w al cl l →
 Calls Tryz.prog 67 #[mV m ad cap, .slice al l.length cl] w fun r w' => r = .returned (.int .i64 (loadE m l)) ∧ Below w.heap.size w w'

theorem mPerm_any (m : MacV) (ad : Option Addr) (cap : Nat) (w : World) (hR : Ints w ad cap m.sw) (HK : ChkM m ad cap) :
  Calls Tryz.prog 18 #[mV m ad cap] w fun r w' => ∃ v, r = .returned (.tuple #[v, .int .i64 (macE m)]) ∧ OwnI w.heap.size w' v (if macE m = 0 then permM m else []) ∧ Below w.heap.size w w' := by
 have hS := (SL.nil w).box (.cells (mC m ad cap) 45)
 have HC := hid HK
 by_cases he : macE m = 0
 ·have hok := (macE_zero he).1
  have CP := fun w h => mperm_any m ad cap w h hok.lo hok.hi
  have HP := hid CP
  rw [if_pos he]
  unfold ChkM at HK
  rw [he] at HK ⊢
  have HC := hid HK
  clear CP HK he hok
  go_enter Tryz.func18, Tryz.ntmps18
  go_wp2_with fail
  refine (HC.out _ (hR.below hS.b)).mono ?_
  rintro e w1 ⟨rfl, b1⟩
  have hS1 := hS.mono b1
  have q1 := (hS1.blk 0 rfl).1
  go_wp2_with (with_reducible refine wpList_ldS (n := 4) (us := mC m ad cap) A_mach kR wU wU (by assumption) wU wU ?_)
  refine (HP.out _ (hR.below hS1.b)).mono ?_
  rintro e w2 ⟨v, rfl, ho, b2⟩
  go_wp2_with fail
  go_ret2
  exact ⟨_, rfl, ho.mono hS1.b.size, bnext hS1.b b2⟩
 ·have hne : (macE m != 0) = true := by simpa using he
  obtain ⟨E, hE⟩ : ∃ E, E = macE m := ⟨_, rfl⟩
  rw [if_neg he]
  unfold ChkM at HK
  rw [← hE] at HK hne ⊢
  have HC := hid HK
  clear HK he hE
  go_enter Tryz.func18, Tryz.ntmps18
  go_wp2_with fail
  refine (HC.out _ (hR.below hS.b)).mono ?_
  rintro e w1 ⟨rfl, b1⟩
  have hS1 := hS.mono b1
  go_wp2_with fail
  go_ret2
  exact ⟨_, rfl, own_nil cIntS, hS1.b⟩

end Go.Proofs.YtddkdgodgflmlaaGreatDoor

namespace Go.Proofs.YtddkdgodgflmlaaGreatDoor
open Go.RowKit
set_option maxHeartbeats 8000000
set_option maxRecDepth 100000

/-- the slots as an int, of any gears. -/
theorem slotsW_any (m : MacV) (ad : Option Addr) (cap : Nat) : ∃ z : Int, (0 ≤ m.gears → m.gears ≤ 16 → z = 4 * m.gears) ∧ ∀ w,
  Calls Tryz.prog 57 #[mV m ad cap] w fun r w' => r = .returned (.int .i64 z) ∧ Below w.heap.size w w' := by
 refine ⟨wrap64 (4 * m.gears), fun h0 h1 => IntWalk.wrap64_in _ (by omega), fun w => ?_⟩
 go_enter Tryz.func57, Tryz.ntmps57
 go_wp2_with fail
 go_ret
 exact ⟨rfl, bal (Below.refl _ _) _⟩

theorem loadGo_step (m : MacV) {l : List Int} {k : Nat} (h : k < l.length) : loadGo m (l.take k) (l.drop k) = if atD 0 l k < 0 ∨ 4 * m.gears ≤ atD 0 l k then 10 else if atD 0 l k ∈ l.take k then 9 else loadGo m (l.take (k + 1)) (l.drop (k + 1)) := by
 rw [take_snoc h]
 conv => lhs; rw [List.drop_eq_getElem_cons h]
 rw [loadGo]
 have e : atD 0 l k = l[k] := by simp [atD, h]
 rw [e]

theorem CheckLoad_any (m : MacV) (ad : Option Addr) (cap : Nat) (al : Option Addr) (cl : Nat) (l : List Int) (HK : ChkM m ad cap) : ChkL m ad cap al cl l := by
 intro w hR hL
 have hcap := hL.le
 have hmx := hL.max
 obtain ⟨z, hz, HZ⟩ := slotsW_any m ad cap
 have hS := (SL.nil w).box (.cells (mC m ad cap) 45)
 have q1 := (hS.blk 0 rfl).1
 have R1 := hR.below hS.b
 by_cases he : macE m = 0
 ·have hok := (macE_zero he).1
  have hlo := hok.lo
  have hhi := hok.hi
  have hz2 := hz (by omega) (by omega)
  subst hz2
  unfold ChkM at HK
  rw [he] at HK
  by_cases hb : 4 * m.gears < l.length
  ·have hv : loadE m l = 5 := by unfold loadE; rw [if_neg (by simp [he]), if_pos hb]
   have HV := hid hv
   have hbd : decide (4 * m.gears < (l.length : Int)) = true := decide_eq_true hb
   clear hv he hok hz hb
   go_enter Tryz.func67, Tryz.ntmps67
   go_wp2_with fail
   refine wp_region_qt 8 kR kR ?_
   simp only [List.take_succ_cons, List.take_zero, List.drop_succ_cons, List.drop_zero]
   repeat (first | ((with_reducible refine wpB_loadS (n := 4) (us := mC m ad cap) A_mach kR wU wU (by assumption) wU wU ?_); (try simp only [Act.put, pA, pB, pC])) | ((refine wpB_call (.int .i64 0) wU (fun w' => ?_) (fun w' hw' => HK w' (R1.below hw')) ?_); (focus (go_simp; done)); (try simp only [Act.put, pA, pB, pC])) | ((refine wpB_call (.int .i64 (4 * m.gears)) wU (fun w' => ?_) (fun w' hw' => HZ w') ?_); (focus (go_simp; done)); (try simp only [Act.put, pA, pB, pC])) | ((with_reducible refine wpB_when wU wU wU ?_); (try simp only [Act.put, pA, pB, pC])) |  ((with_reducible refine wpB_load (by first | exact F_int | exact F_u64s) wU wU (by assumption) wU ?_); (try simp only [Act.put, pA, pB, pC])) | ((refine wpQ_oneG ?_ wU (fun w' => ?_) ?_); rotate_left; (go_simp; rfl); (try simp only [Act.put, pA, pB, pC])))
   refine wpQuiet_nil ?_
   intro w1 hb1
   have hS1 := hS.mono hb1
   go_wp2_with (go_at_call 66; refine (mfirst_any _ _ [_, _] _ (reps_newN cIntS [_, _] 2 rfl (by decide) _ _ (by simp) rfl)).mono ?_; rw [firstE_z, firstE_head (by decide)]; rintro e w' ⟨rfl, rfl⟩)
   go_ret
   exact ⟨by rw [HV.out]; rfl, bal hS1.b _⟩
  ·have hv : loadE m l = loadGo m [] l := by unfold loadE; rw [if_neg (by simp [he]), if_neg hb]
   have HV := hid hv
   have hbd : decide (4 * m.gears < (l.length : Int)) = false := decide_eq_false hb
   clear hv he hok hz hb
   go_enter Tryz.func67, Tryz.ntmps67
   go_wp2_with fail
   refine wp_region_qt 8 kR kR ?_
   simp only [List.take_succ_cons, List.take_zero, List.drop_succ_cons, List.drop_zero]
   repeat (first | ((with_reducible refine wpB_loadS (n := 4) (us := mC m ad cap) A_mach kR wU wU (by assumption) wU wU ?_); (try simp only [Act.put, pA, pB, pC])) | ((refine wpB_call (.int .i64 0) wU (fun w' => ?_) (fun w' hw' => HK w' (R1.below hw')) ?_); (focus (go_simp; done)); (try simp only [Act.put, pA, pB, pC])) | ((refine wpB_call (.int .i64 (4 * m.gears)) wU (fun w' => ?_) (fun w' hw' => HZ w') ?_); (focus (go_simp; done)); (try simp only [Act.put, pA, pB, pC])) | ((with_reducible refine wpB_when wU wU wU ?_); (try simp only [Act.put, pA, pB, pC])) |  ((with_reducible refine wpB_load (by first | exact F_int | exact F_u64s) wU wU (by assumption) wU ?_); (try simp only [Act.put, pA, pB, pC])) | ((refine wpQ_oneG ?_ wU (fun w' => ?_) ?_); rotate_left; (go_simp; rfl); (try simp only [Act.put, pA, pB, pC])))
   refine wpQuiet_nil ?_
   intro w1 hb1
   have hS1 := hS.mono hb1
   go_wp2_with (go_at_call 66; refine (mfirst_any _ _ [_, _] _ (reps_newN cIntS [_, _] 2 rfl (by decide) _ _ (by simp) rfl)).mono ?_; rw [firstE_z, firstE_z, firstE_nil]; rintro e w' ⟨rfl, rfl⟩)
   have hS2 := hS1.al (.cells #[.int .i64 0, .int .i64 0] 26)
   clear hS hS1 q1 R1 hb1
   go_loopw [24] (fun i wr => ∃ k : Nat, k ≤ l.length ∧ i = .int .i64 k ∧ loadGo m (l.take k) (l.drop k) = loadGo m [] l ∧ SL w.heap.size w wr [pBlk w.heap.size (.cells (mC m ad cap) 45)]) (fun i _ => l.length - (intOf i).toNat)
   case atStart => exact ⟨0, by omega, rfl, rfl, hS2⟩
   case round =>
    clear hS2
    obtain ⟨k, hk, rfl, hgo, hSr⟩ := hrel
    have hLr := hL.below hSr.b
    by_cases hlt : k < l.length
    ·have hst := loadGo_step m hlt
     rw [hgo] at hst
     obtain ⟨x, hx⟩ : ∃ x, x = atD 0 l k := ⟨_, rfl⟩
     rw [← hx] at hst
     have HX := hid hx
     clear hx hgo
     have hkcl : k ≤ cl := by omega
     have hLk := intsTake hLr (m := k) (by omega)
     have hkl : (l.take k).length = k := by simp; omega
     have CC := fun w h => sContains_any al cl (l.take k) x w h
     rw [hkl] at CC
     clear hkl
     have q1 := (hSr.blk 0 rfl).1
     by_cases c1 : x < 0
     ·have d1 : decide (x < 0) = true := decide_eq_true c1
      rw [if_pos (.inl c1)] at hst
      have HST := hid hst
      clear hst
      cases hc : (l.take k).contains x
      all_goals
       rw [hc] at CC
       have HC := hid CC
       clear CC hc
      ·go_wp2_with ((with_reducible refine wpList_idx _ 0 E_ints F_int cInt1 wU wU (hLr) oD oD (fun _ => wU) (fun _ => ?_)); rw [← HX.out])
       refine wp_region_qt 15 kR kR ?_
       simp only [List.take_succ_cons, List.take_zero, List.drop_succ_cons, List.drop_zero]
       repeat (first | ((with_reducible refine wpB_loadS (n := 4) (us := mC m ad cap) A_mach kR wU wU (by assumption) wU wU ?_); (try simp only [Act.put, pA, pB, pC])) | ((refine wpB_call (.int .i64 (4 * m.gears)) wU (fun w' => ?_) (fun w' hw' => HZ w') ?_); (focus (go_simp; done)); (try simp only [Act.put, pA, pB, pC])) | ((refine wpB_call (.bool false) wU (fun w' => ?_) (fun w' hw' => calls_below (HC.out w' (hLk.below hw'))) ?_); (focus (go_simp; done)); (try simp only [Act.put, pA, pB, pC])) | ((with_reducible refine wpB_when wU wU wU ?_); (try simp only [Act.put, pA, pB, pC])) | ((with_reducible refine wpQ_skip wU ?_); (try simp only [Act.put, pA, pB, pC])) |  ((with_reducible refine wpB_load (by first | exact F_int | exact F_u64s) wU wU (by assumption) wU ?_); (try simp only [Act.put, pA, pB, pC])) | ((refine wpQ_oneG ?_ wU (fun w' => ?_) ?_); rotate_left; (go_simp; rfl); (try simp only [Act.put, pA, pB, pC])))
       refine wpQuiet_nil ?_
       intro w4 hb4
       have hS4 := hSr.mono hb4
       go_wp2_with (go_at_call 66; refine (mfirst_any _ _ [_, _] _ (reps_newN cIntS [_, _] 2 rfl (by decide) _ _ (by simp) rfl)).mono ?_; rw [firstE_head (by decide)]; rintro e w' ⟨rfl, rfl⟩)
       go_ret
       exact ⟨by rw [HV.out, HST.out]; rfl, bal hS4.b _⟩
      ·go_wp2_with ((with_reducible refine wpList_idx _ 0 E_ints F_int cInt1 wU wU (hLr) oD oD (fun _ => wU) (fun _ => ?_)); rw [← HX.out])
       refine wp_region_qt 15 kR kR ?_
       simp only [List.take_succ_cons, List.take_zero, List.drop_succ_cons, List.drop_zero]
       repeat (first | ((with_reducible refine wpB_loadS (n := 4) (us := mC m ad cap) A_mach kR wU wU (by assumption) wU wU ?_); (try simp only [Act.put, pA, pB, pC])) | ((refine wpB_call (.int .i64 (4 * m.gears)) wU (fun w' => ?_) (fun w' hw' => HZ w') ?_); (focus (go_simp; done)); (try simp only [Act.put, pA, pB, pC])) | ((refine wpB_call (.bool true) wU (fun w' => ?_) (fun w' hw' => calls_below (HC.out w' (hLk.below hw'))) ?_); (focus (go_simp; done)); (try simp only [Act.put, pA, pB, pC])) | ((with_reducible refine wpB_when wU wU wU ?_); (try simp only [Act.put, pA, pB, pC])) | ((with_reducible refine wpQ_skip wU ?_); (try simp only [Act.put, pA, pB, pC])) |  ((with_reducible refine wpB_load (by first | exact F_int | exact F_u64s) wU wU (by assumption) wU ?_); (try simp only [Act.put, pA, pB, pC])) | ((refine wpQ_oneG ?_ wU (fun w' => ?_) ?_); rotate_left; (go_simp; rfl); (try simp only [Act.put, pA, pB, pC])))
       refine wpQuiet_nil ?_
       intro w4 hb4
       have hS4 := hSr.mono hb4
       go_wp2_with (go_at_call 66; refine (mfirst_any _ _ [_, _] _ (reps_newN cIntS [_, _] 2 rfl (by decide) _ _ (by simp) rfl)).mono ?_; rw [firstE_head (by decide)]; rintro e w' ⟨rfl, rfl⟩)
       go_ret
       exact ⟨by rw [HV.out, HST.out]; rfl, bal hS4.b _⟩
     have d1 : decide (x < 0) = false := decide_eq_false c1
     by_cases c2 : 4 * m.gears ≤ x
     ·have d2 : decide (4 * m.gears ≤ x) = true := decide_eq_true c2
      rw [if_pos (.inr c2)] at hst
      have HST := hid hst
      clear hst
      cases hc : (l.take k).contains x
      all_goals
       rw [hc] at CC
       have HC := hid CC
       clear CC hc
      ·go_wp2_with ((with_reducible refine wpList_idx _ 0 E_ints F_int cInt1 wU wU (hLr) oD oD (fun _ => wU) (fun _ => ?_)); rw [← HX.out])
       refine wp_region_qt 15 kR kR ?_
       simp only [List.take_succ_cons, List.take_zero, List.drop_succ_cons, List.drop_zero]
       repeat (first | ((with_reducible refine wpB_loadS (n := 4) (us := mC m ad cap) A_mach kR wU wU (by assumption) wU wU ?_); (try simp only [Act.put, pA, pB, pC])) | ((refine wpB_call (.int .i64 (4 * m.gears)) wU (fun w' => ?_) (fun w' hw' => HZ w') ?_); (focus (go_simp; done)); (try simp only [Act.put, pA, pB, pC])) | ((refine wpB_call (.bool false) wU (fun w' => ?_) (fun w' hw' => calls_below (HC.out w' (hLk.below hw'))) ?_); (focus (go_simp; done)); (try simp only [Act.put, pA, pB, pC])) | ((with_reducible refine wpB_when wU wU wU ?_); (try simp only [Act.put, pA, pB, pC])) | ((with_reducible refine wpQ_skip wU ?_); (try simp only [Act.put, pA, pB, pC])) |  ((with_reducible refine wpB_load (by first | exact F_int | exact F_u64s) wU wU (by assumption) wU ?_); (try simp only [Act.put, pA, pB, pC])) | ((refine wpQ_oneG ?_ wU (fun w' => ?_) ?_); rotate_left; (go_simp; rfl); (try simp only [Act.put, pA, pB, pC])))
       refine wpQuiet_nil ?_
       intro w4 hb4
       have hS4 := hSr.mono hb4
       go_wp2_with (go_at_call 66; refine (mfirst_any _ _ [_, _] _ (reps_newN cIntS [_, _] 2 rfl (by decide) _ _ (by simp) rfl)).mono ?_; rw [firstE_head (by decide)]; rintro e w' ⟨rfl, rfl⟩)
       go_ret
       exact ⟨by rw [HV.out, HST.out]; rfl, bal hS4.b _⟩
      ·go_wp2_with ((with_reducible refine wpList_idx _ 0 E_ints F_int cInt1 wU wU (hLr) oD oD (fun _ => wU) (fun _ => ?_)); rw [← HX.out])
       refine wp_region_qt 15 kR kR ?_
       simp only [List.take_succ_cons, List.take_zero, List.drop_succ_cons, List.drop_zero]
       repeat (first | ((with_reducible refine wpB_loadS (n := 4) (us := mC m ad cap) A_mach kR wU wU (by assumption) wU wU ?_); (try simp only [Act.put, pA, pB, pC])) | ((refine wpB_call (.int .i64 (4 * m.gears)) wU (fun w' => ?_) (fun w' hw' => HZ w') ?_); (focus (go_simp; done)); (try simp only [Act.put, pA, pB, pC])) | ((refine wpB_call (.bool true) wU (fun w' => ?_) (fun w' hw' => calls_below (HC.out w' (hLk.below hw'))) ?_); (focus (go_simp; done)); (try simp only [Act.put, pA, pB, pC])) | ((with_reducible refine wpB_when wU wU wU ?_); (try simp only [Act.put, pA, pB, pC])) | ((with_reducible refine wpQ_skip wU ?_); (try simp only [Act.put, pA, pB, pC])) |  ((with_reducible refine wpB_load (by first | exact F_int | exact F_u64s) wU wU (by assumption) wU ?_); (try simp only [Act.put, pA, pB, pC])) | ((refine wpQ_oneG ?_ wU (fun w' => ?_) ?_); rotate_left; (go_simp; rfl); (try simp only [Act.put, pA, pB, pC])))
       refine wpQuiet_nil ?_
       intro w4 hb4
       have hS4 := hSr.mono hb4
       go_wp2_with (go_at_call 66; refine (mfirst_any _ _ [_, _] _ (reps_newN cIntS [_, _] 2 rfl (by decide) _ _ (by simp) rfl)).mono ?_; rw [firstE_head (by decide)]; rintro e w' ⟨rfl, rfl⟩)
       go_ret
       exact ⟨by rw [HV.out, HST.out]; rfl, bal hS4.b _⟩
     have d2 : decide (4 * m.gears ≤ x) = false := decide_eq_false c2
     rw [if_neg (by omega)] at hst
     by_cases c3 : x ∈ l.take k
     ·have hc : (l.take k).contains x = true := by simpa using c3
      rw [if_pos c3] at hst
      rw [hc] at CC
      have HC := hid CC; have HST := hid hst
      clear CC hc c3 hst
      go_wp2_with ((with_reducible refine wpList_idx _ 0 E_ints F_int cInt1 wU wU (hLr) oD oD (fun _ => wU) (fun _ => ?_)); rw [← HX.out])
      refine wp_region_qt 15 kR kR ?_
      simp only [List.take_succ_cons, List.take_zero, List.drop_succ_cons, List.drop_zero]
      repeat (first | ((with_reducible refine wpB_loadS (n := 4) (us := mC m ad cap) A_mach kR wU wU (by assumption) wU wU ?_); (try simp only [Act.put, pA, pB, pC])) | ((refine wpB_call (.int .i64 (4 * m.gears)) wU (fun w' => ?_) (fun w' hw' => HZ w') ?_); (focus (go_simp; done)); (try simp only [Act.put, pA, pB, pC])) | ((refine wpB_call (.bool true) wU (fun w' => ?_) (fun w' hw' => calls_below (HC.out w' (hLk.below hw'))) ?_); (focus (go_simp; done)); (try simp only [Act.put, pA, pB, pC])) | ((with_reducible refine wpB_when wU wU wU ?_); (try simp only [Act.put, pA, pB, pC])) | ((with_reducible refine wpQ_skip wU ?_); (try simp only [Act.put, pA, pB, pC])) |  ((with_reducible refine wpB_load (by first | exact F_int | exact F_u64s) wU wU (by assumption) wU ?_); (try simp only [Act.put, pA, pB, pC])) | ((refine wpQ_oneG ?_ wU (fun w' => ?_) ?_); rotate_left; (go_simp; rfl); (try simp only [Act.put, pA, pB, pC])))
      refine wpQuiet_nil ?_
      intro w4 hb4
      have hS4 := hSr.mono hb4
      go_wp2_with (go_at_call 66; refine (mfirst_any _ _ [_, _] _ (reps_newN cIntS [_, _] 2 rfl (by decide) _ _ (by simp) rfl)).mono ?_; rw [firstE_z, firstE_head (by decide)]; rintro e w' ⟨rfl, rfl⟩)
      go_ret
      exact ⟨by rw [HV.out, HST.out]; rfl, bal hS4.b _⟩
     ·have hc : (l.take k).contains x = false := by simpa using c3
      rw [if_neg c3] at hst
      rw [hc] at CC
      have HC := hid CC; have HST := hid hst
      clear CC hc c3 hst
      go_wp2_with ((with_reducible refine wpList_idx _ 0 E_ints F_int cInt1 wU wU (hLr) oD oD (fun _ => wU) (fun _ => ?_)); rw [← HX.out])
      refine wp_region_qt 15 kR kR ?_
      simp only [List.take_succ_cons, List.take_zero, List.drop_succ_cons, List.drop_zero]
      repeat (first | ((with_reducible refine wpB_loadS (n := 4) (us := mC m ad cap) A_mach kR wU wU (by assumption) wU wU ?_); (try simp only [Act.put, pA, pB, pC])) | ((refine wpB_call (.int .i64 (4 * m.gears)) wU (fun w' => ?_) (fun w' hw' => HZ w') ?_); (focus (go_simp; done)); (try simp only [Act.put, pA, pB, pC])) | ((refine wpB_call (.bool false) wU (fun w' => ?_) (fun w' hw' => calls_below (HC.out w' (hLk.below hw'))) ?_); (focus (go_simp; done)); (try simp only [Act.put, pA, pB, pC])) | ((with_reducible refine wpB_when wU wU wU ?_); (try simp only [Act.put, pA, pB, pC])) | ((with_reducible refine wpQ_skip wU ?_); (try simp only [Act.put, pA, pB, pC])) |  ((with_reducible refine wpB_load (by first | exact F_int | exact F_u64s) wU wU (by assumption) wU ?_); (try simp only [Act.put, pA, pB, pC])) | ((refine wpQ_oneG ?_ wU (fun w' => ?_) ?_); rotate_left; (go_simp; rfl); (try simp only [Act.put, pA, pB, pC])))
      refine wpQuiet_nil ?_
      intro w4 hb4
      have hS4 := hSr.mono hb4
      go_wp2_with (go_at_call 66; refine (mfirst_any _ _ [_, _] _ (reps_newN cIntS [_, _] 2 rfl (by decide) _ _ (by simp) rfl)).mono ?_; rw [firstE_z, firstE_z, firstE_nil]; rintro e w' ⟨rfl, rfl⟩)
      exact ⟨⟨k + 1, by omega, by go_num, HST.out.symm, hS4.al _⟩, by simp [intOf]; omega⟩
    ·have hkk : k = l.length := by omega
     subst hkk
     have e : loadGo m (l.take l.length) (l.drop l.length) = 0 := by rw [List.drop_length]; rfl
     rw [e] at hgo
     have HG := hid hgo
     clear hgo e
     go_wp2_with fail
     go_ret
     exact ⟨by rw [HV.out, ← HG.out]; rfl, hSr.b⟩
 ·have hv : loadE m l = macE m := by unfold loadE; rw [if_pos he]
  unfold ChkM at HK
  obtain ⟨E, hE⟩ : ∃ E, E = macE m := ⟨_, rfl⟩
  rw [← hE] at HK hv he
  have HV := hid hv
  have hne : (E != 0) = true := by simpa using he
  clear hv hE hz
  cases hb : decide (z < (l.length : Int))
  all_goals
   go_enter Tryz.func67, Tryz.ntmps67
   go_wp2_with fail
   refine wp_region_qt 8 kR kR ?_
   simp only [List.take_succ_cons, List.take_zero, List.drop_succ_cons, List.drop_zero]
   repeat (first | ((with_reducible refine wpB_loadS (n := 4) (us := mC m ad cap) A_mach kR wU wU (by assumption) wU wU ?_); (try simp only [Act.put, pA, pB, pC])) | ((refine wpB_call (.int .i64 E) wU (fun w' => ?_) (fun w' hw' => HK w' (R1.below hw')) ?_); (focus (go_simp; done)); (try simp only [Act.put, pA, pB, pC])) | ((refine wpB_call (.int .i64 z) wU (fun w' => ?_) (fun w' hw' => HZ w') ?_); (focus (go_simp; done)); (try simp only [Act.put, pA, pB, pC])) | ((with_reducible refine wpB_when wU wU wU ?_); (try simp only [Act.put, pA, pB, pC])) |  ((with_reducible refine wpB_load (by first | exact F_int | exact F_u64s) wU wU (by assumption) wU ?_); (try simp only [Act.put, pA, pB, pC])) | ((refine wpQ_oneG ?_ wU (fun w' => ?_) ?_); rotate_left; (go_simp; rfl); (try simp only [Act.put, pA, pB, pC])))
   refine wpQuiet_nil ?_
   intro w1 hb1
   have hS1 := hS.mono hb1
   go_wp2_with (go_at_call 66; refine (mfirst_any _ _ [_, _] _ (reps_newN cIntS [_, _] 2 rfl (by decide) _ _ (by simp) rfl)).mono ?_; rw [firstE_head he]; rintro e w' ⟨rfl, rfl⟩)
   go_ret
   exact ⟨by rw [HV.out]; rfl, bal hS1.b _⟩
end Go.Proofs.YtddkdgodgflmlaaGreatDoor

namespace Go.Proofs.YtddkdgodgflmlaaGreatDoor
open Go.RowKit
set_option maxHeartbeats 8000000
set_option maxRecDepth 100000

theorem steps1_any (m : MacV) (ad : Option Addr) (cap : Nat) (bm bn : Nat) (s n : Int) (w : World) (hm : w.heap[bm]? = some (.cells (mC m ad cap) 45)) (hn : w.heap[bn]? = some (.cells #[.int .i64 n] 3)) (hR : Ints w ad cap m.sw) (hg : m.gears ≤ 16) (h0 : 0 ≤ s) (h1 : s < 4 * m.gears) (n0 : 0 ≤ n) (n1 : n ≤ 9223372036854775807) :
  Calls Tryz.prog 70 #[.int .i64 s, .pointer (some ⟨bm, 0, none⟩), .pointer (some ⟨bn, 0, none⟩)] w fun r w' => r = .returned (.int .i64 (itM m s n.toNat)) ∧ Below w.heap.size w w' := by
 have CA := fun w h => after_any m ad cap s n w h hg h0 h1 n0 n1
 have HA := hid CA
 clear CA
 go_enter Tryz.func70, Tryz.ntmps70
 go_wp2_with (first | (with_reducible refine wpList_ldS (n := 4) (us := mC m ad cap) A_mach kR wU wU (by assumption) wU wU ?_) | (with_reducible refine wpList_ldB F_int wU wU hn wU ?_))
 refine (HA.out _ hR).mono ?_
 rintro e w1 ⟨rfl, b1⟩
 go_wp2_with fail
 go_ret
 exact ⟨rfl, b1⟩

/-- mapped with a function of the program, of which the places are given. -/
theorem mappedS_any (p1 p2 : Value) (g : Int → Int) (al : Option Addr) (cl : Nat) (l : List Int) (w : World) (hL : Ints w al cl l) (hn : l.length ≤ 1048576)
  (HF : ∀ x ∈ l, ∀ w', Below w.heap.size w w' → Calls Tryz.prog 70 #[.int .i64 x, p1, p2] w' fun r w'' => r = .returned (.int .i64 (g x)) ∧ Below w'.heap.size w' w'') :
  Calls Tryz.prog 69 #[.slice al l.length cl, .func (.func 70) #[] #[p1, p2]] w fun r w' => ∃ v, r = .returned v ∧ OwnI w.heap.size w' v (l.map g) ∧ Below w.heap.size w w' := by
 have hcap := hL.le
 have hmx := hL.max
 have H := hid HF
 clear HF
 have hS := (SL.nil w).nilS (α := Int) (e := 3) cIntS
 go_enter Tryz.func69, Tryz.ntmps69
 go_wp2_with fail
 go_loopw [5, 10] (fun v i wr => ∃ k : Nat, k ≤ l.length ∧ i = .int .i64 k ∧ SL w.heap.size w wr [pOwn cInt 1 3 v ((l.take k).map g)]) (fun _ i _ => l.length - (intOf i).toNat)
 case atStart => exact ⟨0, by omega, rfl, hS⟩
 case round =>
  clear hS
  obtain ⟨k, hk, rfl, hSr⟩ := hrel
  have hLr := hL.below hSr.b
  by_cases hlt : k < l.length
  ·have hmem := atD_mem hlt
   have ht := take_snoc hlt
   have hlen : ((l.take k).map g).length ≤ 1048576 := by simp; omega
   obtain ⟨x, hx⟩ : ∃ x, x = atD 0 l k := ⟨_, rfl⟩
   rw [← hx] at hmem ht
   have HX := hid hx; have HT := hid ht
   clear hx ht
   go_wp2_with ((with_reducible refine wpList_idx _ 0 E_ints F_int cInt1 wU wU (hLr) oD oD (fun _ => wU) (fun _ => ?_)); rw [← HX.out])
   refine (H.out x hmem _ hSr.b).mono ?_
   rintro e w1 ⟨rfl, b1⟩
   have hS1 := hSr.mono b1
   go_wp2_with ((with_reducible refine wpList_pushL (y := (g x)) 0 E_ints wU wU (hS1) wU cIntO ⟨rfl, rfl⟩ (by first | with_unfolding_all rfl | simp) wU (by first | omega | (simp; omega)) (by first | omega | (simp; omega)) ?_); intro v2 w2 hS2)
   exact ⟨⟨k + 1, by omega, by go_num, by rw [HT.out, List.map_append]; exact hS2⟩, by simp [intOf]; omega⟩
  ·have hkk : k = l.length := by omega
   subst hkk
   rw [List.take_length] at hSr
   go_wp2_with fail
   go_ret
   exact ⟨_, rfl, hSr.own 0 rfl, hSr.b⟩

theorem loadGo_zero (m : MacV) : ∀ (l pre : List Int), pre.Nodup → loadGo m pre l = 0 → (∀ x ∈ l, 0 ≤ x ∧ x < 4 * m.gears) ∧ (pre ++ l).Nodup
 | [], pre, hp, _ => ⟨fun x hx => absurd hx (by simp), by simpa using hp⟩
 | s :: r, pre, hp, h => by
   rw [loadGo] at h
   split at h
   · omega
   · rename_i h1
     split at h
     · omega
     · rename_i h2
       have hp2 : (pre ++ [s]).Nodup := by
         rw [List.nodup_append]
         refine ⟨hp, by simp, ?_⟩
         intro a ha b hb e
         simp at hb
         subst hb; subst e
         exact h2 ha
       obtain ⟨k1, k2⟩ := loadGo_zero m r (pre ++ [s]) hp2 h
       refine ⟨fun x hx => ?_, by simpa using k2⟩
       rcases List.mem_cons.1 hx with rfl | hx
       · omega
       · exact k1 x hx
structure LoadOk (m : MacV) (l : List Int) : Prop where
 mac : macE m = 0
 ok : MacOk m
 few : l.length ≤ 4 * m.gears
 rng : ∀ x ∈ l, 0 ≤ x ∧ x < 4 * m.gears
 nodup : l.Nodup
theorem loadE_zero {m : MacV} {l : List Int} (h : loadE m l = 0) : LoadOk m l := by
 unfold loadE at h
 split at h
 ·rename_i h1; exact absurd h h1
 ·rename_i h1
  split at h
  ·omega
  ·have h3 : macE m = 0 := by simpa using h1
   obtain ⟨a, b⟩ := loadGo_zero m l [] List.nodup_nil h
   exact ⟨h3, (macE_zero h3).1, by omega, a, by simpa using b⟩
def stepsE (m : MacV) (l : List Int) (n : Int) : Int := if loadE m l ≠ 0 then loadE m l else if n < 0 ∨ 999999999 < n then 3 else 0

theorem mSteps_any (m : MacV) (ad : Option Addr) (cap : Nat) (al : Option Addr) (cl : Nat) (l : List Int) (n : Int) (w : World) (hR : Ints w ad cap m.sw) (hL : Ints w al cl l) (HK : ChkL m ad cap al cl l) :
  Calls Tryz.prog 24 #[mV m ad cap, .slice al l.length cl, .int .i64 n] w fun r w' => ∃ v, r = .returned (.tuple #[v, .int .i64 (stepsE m l n)]) ∧ OwnI w.heap.size w' v (if stepsE m l n = 0 then l.map (fun s => itM m s n.toNat) else []) ∧ Below w.heap.size w w' := by
 have hcap := hL.le
 have hmx := hL.max
 have hS := ((SL.nil w).box (.cells (mC m ad cap) 45)).box (.cells #[.int .i64 n] 3)
 simp only [World.size_alloc] at hS
 have q1 := (hS.blk 1 rfl).1
 have q0 := (hS.blk 0 rfl).1
 have R1 := hR.below hS.b
 have L1 := hL.below hS.b
 unfold ChkL at HK
 by_cases he : loadE m l = 0
 ·have hok := loadE_zero he
  by_cases c1 : n < 0
  ·have d1 : decide (n < 0) = true := decide_eq_true c1
   have hv : stepsE m l n = 3 := by unfold stepsE; rw [if_neg (by simp [he]), if_pos (.inl c1)]
   rw [he] at HK
   rw [hv]
   clear hv he hok c1
   go_enter Tryz.func24, Tryz.ntmps24
   go_wp2_with fail
   refine wp_region_qt 10 kR kR ?_
   simp only [List.take_succ_cons, List.take_zero, List.drop_succ_cons, List.drop_zero]
   repeat (first | ((with_reducible refine wpB_loadS (n := 4) (us := mC m ad cap) A_mach kR wU wU (by assumption) wU wU ?_); (try simp only [Act.put, pA, pB, pC])) | ((with_reducible refine wpB_load F_int wU wU (by assumption) wU ?_); (try simp only [Act.put, pA, pB, pC])) | ((refine wpB_call (.int .i64 0) wU (fun w' => ?_) (fun w' hw' => HK w' (R1.below hw') (L1.below hw')) ?_); (focus (go_simp; done)); (try simp only [Act.put, pA, pB, pC])) | ((with_reducible refine wpB_when wU wU wU ?_); (try simp only [Act.put, pA, pB, pC])) | ((with_reducible refine wpQ_skip wU ?_); (try simp only [Act.put, pA, pB, pC])) |  ((with_reducible refine wpB_load (by first | exact F_int | exact F_u64s) wU wU (by assumption) wU ?_); (try simp only [Act.put, pA, pB, pC])) | ((refine wpQ_oneG ?_ wU (fun w' => ?_) ?_); rotate_left; (go_simp; rfl); (try simp only [Act.put, pA, pB, pC])))
   refine wpQuiet_nil ?_
   intro w1 hb1
   have hS2 := hS.mono hb1
   go_wp2_with (go_at_call 66; refine (mfirst_any _ _ [_, _] _ (reps_newN cIntS [_, _] 2 rfl (by decide) _ _ (by simp) rfl)).mono ?_; rw [firstE_z, firstE_head (by decide)]; rintro e w' ⟨rfl, rfl⟩)
   go_ret2
   exact ⟨_, rfl, own_nil cIntS, bal hS2.b _⟩
  have d1 : decide (n < 0) = false := decide_eq_false c1
  by_cases c2 : 999999999 < n
  ·have d2 : decide (999999999 < n) = true := decide_eq_true c2
   have hv : stepsE m l n = 3 := by unfold stepsE; rw [if_neg (by simp [he]), if_pos (.inr c2)]
   rw [he] at HK
   rw [hv]
   clear hv he hok c2
   go_enter Tryz.func24, Tryz.ntmps24
   go_wp2_with fail
   refine wp_region_qt 10 kR kR ?_
   simp only [List.take_succ_cons, List.take_zero, List.drop_succ_cons, List.drop_zero]
   repeat (first | ((with_reducible refine wpB_loadS (n := 4) (us := mC m ad cap) A_mach kR wU wU (by assumption) wU wU ?_); (try simp only [Act.put, pA, pB, pC])) | ((with_reducible refine wpB_load F_int wU wU (by assumption) wU ?_); (try simp only [Act.put, pA, pB, pC])) | ((refine wpB_call (.int .i64 0) wU (fun w' => ?_) (fun w' hw' => HK w' (R1.below hw') (L1.below hw')) ?_); (focus (go_simp; done)); (try simp only [Act.put, pA, pB, pC])) | ((with_reducible refine wpB_when wU wU wU ?_); (try simp only [Act.put, pA, pB, pC])) | ((with_reducible refine wpQ_skip wU ?_); (try simp only [Act.put, pA, pB, pC])) |  ((with_reducible refine wpB_load (by first | exact F_int | exact F_u64s) wU wU (by assumption) wU ?_); (try simp only [Act.put, pA, pB, pC])) | ((refine wpQ_oneG ?_ wU (fun w' => ?_) ?_); rotate_left; (go_simp; rfl); (try simp only [Act.put, pA, pB, pC])))
   refine wpQuiet_nil ?_
   intro w1 hb1
   have hS2 := hS.mono hb1
   go_wp2_with (go_at_call 66; refine (mfirst_any _ _ [_, _] _ (reps_newN cIntS [_, _] 2 rfl (by decide) _ _ (by simp) rfl)).mono ?_; rw [firstE_z, firstE_head (by decide)]; rintro e w' ⟨rfl, rfl⟩)
   go_ret2
   exact ⟨_, rfl, own_nil cIntS, bal hS2.b _⟩
  ·have d2 : decide (999999999 < n) = false := decide_eq_false c2
   have hv : stepsE m l n = 0 := by unfold stepsE; rw [if_neg (by simp [he]), if_neg (by omega)]
   rw [he] at HK
   rw [hv, if_pos rfl]
   have hrng := hok.rng
   have hhi := hok.ok.hi
   have hfew := hok.few
   have HRNG := hid hrng
   clear hv he hok hrng
   go_enter Tryz.func24, Tryz.ntmps24
   go_wp2_with fail
   refine wp_region_qt 10 kR kR ?_
   simp only [List.take_succ_cons, List.take_zero, List.drop_succ_cons, List.drop_zero]
   repeat (first | ((with_reducible refine wpB_loadS (n := 4) (us := mC m ad cap) A_mach kR wU wU (by assumption) wU wU ?_); (try simp only [Act.put, pA, pB, pC])) | ((with_reducible refine wpB_load F_int wU wU (by assumption) wU ?_); (try simp only [Act.put, pA, pB, pC])) | ((refine wpB_call (.int .i64 0) wU (fun w' => ?_) (fun w' hw' => HK w' (R1.below hw') (L1.below hw')) ?_); (focus (go_simp; done)); (try simp only [Act.put, pA, pB, pC])) | ((with_reducible refine wpB_when wU wU wU ?_); (try simp only [Act.put, pA, pB, pC])) | ((with_reducible refine wpQ_skip wU ?_); (try simp only [Act.put, pA, pB, pC])) |  ((with_reducible refine wpB_load (by first | exact F_int | exact F_u64s) wU wU (by assumption) wU ?_); (try simp only [Act.put, pA, pB, pC])) | ((refine wpQ_oneG ?_ wU (fun w' => ?_) ?_); rotate_left; (go_simp; rfl); (try simp only [Act.put, pA, pB, pC])))
   refine wpQuiet_nil ?_
   intro w1 hb1
   have hS2 := hS.mono hb1
   go_wp2_with (go_at_call 66; refine (mfirst_any _ _ [_, _] _ (reps_newN cIntS [_, _] 2 rfl (by decide) _ _ (by simp) rfl)).mono ?_; rw [firstE_z, firstE_z, firstE_nil]; rintro e w' ⟨rfl, rfl⟩)
   have hS4 := hS2.al (.cells #[.int .i64 0, .int .i64 0] 26)
   have q5 := (hS4.blk 1 rfl).1
   have q4 := (hS4.blk 0 rfl).1
   have t4 := hS4.b
   refine (mappedS_any _ _ (fun s => itM m s n.toNat) al cl l _ (hL.below t4) (by omega) (fun x hx w' hw' => ?_)).mono ?_
   ·refine steps1_any m ad cap _ _ x n w' ?_ ?_ ((hR.below t4).below hw') hhi (HRNG.out x hx).1 (HRNG.out x hx).2 (by omega) (by omega)
    ·exact (hw'.block _ (hS4.blk 1 rfl).2.2).trans q5
    ·exact (hw'.block _ (hS4.blk 0 rfl).2.2).trans q4
   rintro e w5 ⟨v, rfl, ho, b5⟩
   go_wp2_with fail
   go_ret2
   exact ⟨_, rfl, ho.mono t4.size, bnext t4 b5⟩
 ·obtain ⟨E, hE⟩ : ∃ E, E = loadE m l := ⟨_, rfl⟩
  have hv : stepsE m l n = E := by unfold stepsE; rw [if_pos he, hE]
  rw [← hE] at HK he
  have hne : (E != 0) = true := by simpa using he
  rw [hv, if_neg he]
  clear hv hE
  cases d1 : decide (n < 0)
  ·go_enter Tryz.func24, Tryz.ntmps24
   go_wp2_with fail
   refine wp_region_qt 10 kR kR ?_
   simp only [List.take_succ_cons, List.take_zero, List.drop_succ_cons, List.drop_zero]
   repeat (first | ((with_reducible refine wpB_loadS (n := 4) (us := mC m ad cap) A_mach kR wU wU (by assumption) wU wU ?_); (try simp only [Act.put, pA, pB, pC])) | ((with_reducible refine wpB_load F_int wU wU (by assumption) wU ?_); (try simp only [Act.put, pA, pB, pC])) | ((refine wpB_call (.int .i64 E) wU (fun w' => ?_) (fun w' hw' => HK w' (R1.below hw') (L1.below hw')) ?_); (focus (go_simp; done)); (try simp only [Act.put, pA, pB, pC])) | ((with_reducible refine wpB_when wU wU wU ?_); (try simp only [Act.put, pA, pB, pC])) | ((with_reducible refine wpQ_skip wU ?_); (try simp only [Act.put, pA, pB, pC])) |  ((with_reducible refine wpB_load (by first | exact F_int | exact F_u64s) wU wU (by assumption) wU ?_); (try simp only [Act.put, pA, pB, pC])) | ((refine wpQ_oneG ?_ wU (fun w' => ?_) ?_); rotate_left; (go_simp; rfl); (try simp only [Act.put, pA, pB, pC])))
   refine wpQuiet_nil ?_
   intro w1 hb1
   have hS2 := hS.mono hb1
   go_wp2_with (go_at_call 66; refine (mfirst_any _ _ [_, _] _ (reps_newN cIntS [_, _] 2 rfl (by decide) _ _ (by simp) rfl)).mono ?_; rw [firstE_head he]; rintro e w' ⟨rfl, rfl⟩)
   all_goals go_ret2
   all_goals exact ⟨_, rfl, own_nil cIntS, bal hS2.b _⟩
  ·go_enter Tryz.func24, Tryz.ntmps24
   go_wp2_with fail
   refine wp_region_qt 10 kR kR ?_
   simp only [List.take_succ_cons, List.take_zero, List.drop_succ_cons, List.drop_zero]
   repeat (first | ((with_reducible refine wpB_loadS (n := 4) (us := mC m ad cap) A_mach kR wU wU (by assumption) wU wU ?_); (try simp only [Act.put, pA, pB, pC])) | ((with_reducible refine wpB_load F_int wU wU (by assumption) wU ?_); (try simp only [Act.put, pA, pB, pC])) | ((refine wpB_call (.int .i64 E) wU (fun w' => ?_) (fun w' hw' => HK w' (R1.below hw') (L1.below hw')) ?_); (focus (go_simp; done)); (try simp only [Act.put, pA, pB, pC])) | ((with_reducible refine wpB_when wU wU wU ?_); (try simp only [Act.put, pA, pB, pC])) | ((with_reducible refine wpQ_skip wU ?_); (try simp only [Act.put, pA, pB, pC])) |  ((with_reducible refine wpB_load (by first | exact F_int | exact F_u64s) wU wU (by assumption) wU ?_); (try simp only [Act.put, pA, pB, pC])) | ((refine wpQ_oneG ?_ wU (fun w' => ?_) ?_); rotate_left; (go_simp; rfl); (try simp only [Act.put, pA, pB, pC])))
   refine wpQuiet_nil ?_
   intro w1 hb1
   have hS2 := hS.mono hb1
   go_wp2_with (go_at_call 66; refine (mfirst_any _ _ [_, _] _ (reps_newN cIntS [_, _] 2 rfl (by decide) _ _ (by simp) rfl)).mono ?_; rw [firstE_head he]; rintro e w' ⟨rfl, rfl⟩)
   all_goals go_ret2
   all_goals exact ⟨_, rfl, own_nil cIntS, bal hS2.b _⟩
end Go.Proofs.YtddkdgodgflmlaaGreatDoor

namespace Go.Proofs.YtddkdgodgflmlaaGreatDoor
open Go.RowKit
set_option maxHeartbeats 1000000
set_option maxRecDepth 100000

open Go.Maps in
/-- the map counts the numbers of the list. -/
structure CntD (D : DataW Unit) (l : List Int) : Prop where
 map : IsMap D
 key : ∀ kl, has D kl = true ↔ ∃ x ∈ l, kl = .int .i64 x
 cnt : ∀ x ∈ l, ∀ z, D.atKey (.int .i64 x) z = .lit (.int .i64 (l.count x))
open Go.Maps in
theorem CntD.at0 {D : DataW Unit} {l : List Int} (h : CntD D l) (x : Int) : D.atKey (.int .i64 x) (.lit (.int .i64 0)) = .lit (.int .i64 (l.count x)) := by
 by_cases hx : x ∈ l
 ·exact h.cnt x hx _
 ·have hn : has D (.int .i64 x) = false := by
   cases e : has D (.int .i64 x)
   ·rfl
   ·obtain ⟨y, hy, e2⟩ := (h.key _).1 e
    cases e2; exact absurd hy hx
  rw [atKey_of_not_has hn, List.count_eq_zero.2 hx]; rfl
open Go.Maps in
theorem CntD.step {D : DataW Unit} {l : List Int} (h : CntD D l) {x : Int} (hk : WideAt.IsKeyLit (.int .i64 x)) : CntD (D.put (.int .i64 x) (.lit (.int .i64 ((l.count x : Int) + 1)))) (l ++ [x]) := by
 refine ⟨h.map.put _ _, fun kl => ?_, fun y hy z => ?_⟩
 ·by_cases e : kl = .int .i64 x
  ·subst e
   rw [has_put_same h.map hk]
   simp
  ·rw [has_put_other e, h.key]
   constructor
   ·rintro ⟨y, hy, rfl⟩; exact ⟨y, by simp [hy], rfl⟩
   ·rintro ⟨y, hy, rfl⟩
    rcases List.mem_append.1 hy with hy | hy
    ·exact ⟨y, hy, rfl⟩
    ·simp only [List.mem_singleton] at hy
     subst hy; exact absurd rfl e
 ·by_cases e : y = x
  ·subst e
   rw [atKey_put_same h.map hk]
   simp
  ·have hy2 : y ∈ l := by
    rcases List.mem_append.1 hy with hy | hy
    ·exact hy
    ·simp only [List.mem_singleton] at hy; exact absurd hy e
   rw [atKey_put_other (fun e2 => e (by cases e2; rfl)), h.cnt y hy2]
   have : ([x] : List Int).count y = 0 := List.count_eq_zero.2 (by simpa using e)
   rw [List.count_append, this, Nat.add_zero]
open Go.Maps in
theorem CntD.same {D E : DataW Unit} {l m : List Int} (h : CntD D l) (k : CntD E m) (cD : Canon D) (cE : Canon E) (hc : ∀ x, m.count x = l.count x) : D = E := by
 have hm : ∀ x, x ∈ l ↔ x ∈ m := fun x => by rw [← List.count_pos_iff, ← List.count_pos_iff, hc]
 have hh : ∀ kl, has D kl = has E kl := fun kl => by
  rw [Bool.eq_iff_iff, h.key, k.key]
  constructor
  ·rintro ⟨x, a, b⟩; exact ⟨x, (hm x).1 a, b⟩
  ·rintro ⟨x, a, b⟩; exact ⟨x, (hm x).2 a, b⟩
 refine ext cD cE hh (fun kl z hk => ?_)
 obtain ⟨x, hx, rfl⟩ := (h.key kl).1 hk
 rw [h.cnt x hx, k.cnt x ((hm x).1 hx), hc]
end Go.Proofs.YtddkdgodgflmlaaGreatDoor

namespace Go.Proofs.YtddkdgodgflmlaaGreatDoor
open Go.RowKit Go.Maps
set_option maxRecDepth 100000

def CntM (w : World) (b n : Nat) (l : List Int) : Prop := ∃ D : DataW Unit, w.ownsMap Tryz.prog 3 (plainElem Tryz.prog 3) b n D ∧ CntD D l
theorem CntM.kept {w w' : World} {b n : Nat} {l : List Int} {row : Option Nat} (h : CntM w b n l) (hg : w.grownBy w' row) (hne : some b ≠ row) : CntM w' b n l := by
 obtain ⟨D, h1, h2⟩ := h; exact ⟨D, h1.kept hg hne, h2⟩
theorem CntM.lt {w : World} {b n : Nat} {l : List Int} (h : CntM w b n l) : b < w.heap.size := by obtain ⟨D, h1, _⟩ := h; exact h1.lt
theorem CntM.look {w : World} {b n : Nat} {l : List Int} (h : CntM w b n l) {k : Int} (hk : InI k) : (Instr.lookup 90 (.map (some b)) (.int .i64 k) false).run Tryz.prog w = .ok (.int .i64 (l.count k)) w := by
 obtain ⟨D, h1, h2⟩ := h
 obtain ⟨x, hrun, hat, _⟩ := h1.lookup_int keyI Tryz.underlying90 Tryz.underlying3 (zeroI w) (keyOfI hk)
 rw [h2.at0 k] at hat
 simp only [DataW.lit.injEq, Lit.int.injEq, true_and] at hat
 rw [hrun, hat]
theorem CntM.put {w : World} {b n : Nat} {l : List Int} (h : CntM w b n l) {k : Int} (hk : InI k) (hl : l.length ≤ 1048576) (hn : n < maxLen) :
   ∃ w', (Instr.mapUpdate 90 (.map (some b)) (.int .i64 k) (.int .i64 ((l.count k : Int) + 1))).run Tryz.prog w = .ok () w' ∧ CntM w' b (n + 1) (l ++ [k]) ∧ w.grownBy w' (some b) := by
 obtain ⟨D, h1, h2⟩ := h
 have hc : l.count k ≤ l.length := List.count_le_length
 have hv : InI ((l.count k : Int) + 1) := by unfold InI; omega
 obtain ⟨w', hrun, ho, hg⟩ := h1.update keyI Tryz.underlying90 hn (keyOfI hk) (plainElem_int Tryz.underlying3 hv.wf)
 exact ⟨w', hrun, ⟨_, ho, h2.step (keyI.key (keyOfI hk))⟩, hg⟩
theorem CntM.len {w : World} {b n : Nat} {l : List Int} (h : CntM w b n l) : ∃ z : Nat, (∀ ty, (Builtin.len_ #[90] ty #[.map (some b)]).run Tryz.prog w = .ok (.int .i64 z) w) ∧
  ∀ (b' n' : Nat) (m : List Int), CntM w b' n' m → (∀ x, m.count x = l.count x) → ∀ ty, (Builtin.len_ #[90] ty #[.map (some b')]).run Tryz.prog w = .ok (.int .i64 z) w := by
 obtain ⟨D, h1, h2⟩ := h
 refine ⟨Maps.size D, fun ty => h1.len Tryz.underlying90 ty, fun b' n' m hm hc ty => ?_⟩
 obtain ⟨E, g1, g2⟩ := hm
 have e := h2.same g2 (h1.canon keyI) (g1.canon keyI) hc
 rw [e]
 exact g1.len Tryz.underlying90 ty
def pCnt (k n : Nat) (l : List Int) : Pc where
 P w b := b = some k ∧ CntM w k n l
 lt w j h := by obtain ⟨h1, h2⟩ := h; cases h1; exact h2.lt
 loc w w' row b h hg hne := ⟨h.1, h.2.kept hg (fun e => hne k h.1 e.symm)⟩
theorem SL.cnt {B : Nat} {w0 w : World} {L : List Pc} {k n : Nat} {l : List Int} (h : SL B w0 w L) (i : Nat) (hi : L[i]? = some (pCnt k n l)) : CntM w k n l := by
 obtain ⟨b, ⟨_, h1⟩, _⟩ := h.upd i hi
 exact h1
section
variable {ops : Array Oper} {rest : List Oper} {a : Act} {Q : Exit → Act → World → Prop} {d : Option Tmp} {ty : TypeId} {p : String} {m x y : Operand} {af : Array Edge} {g : Option (Nat × Bool)} {b n B : Nat} {k : Int} {w0 w : World} {L : List Pc} {l : List Int}
end
section
variable {P : Program} {ops : Array Oper} {rest : List Oper} {a : Act} {α : Type} {c : α → Value} {sz bytes : Nat} {t e t2 e2 : TypeId} {z : Value} {ad : Option Addr} {cap n : Nat} {l : List α} {k : Int} {w : World}
 {d1 d2 d3 : Tmp} {ty1 ty2 ty3 : TypeId} {p1 p2 p3 : String} {s x : Operand} {af1 af2 af3 : Array Edge} {j : Nat} {g1 g2 g3 : Option (Nat × Bool)}
end
section
variable {P : Program} {ops : Array Oper} {a : Act} {ty : TypeId} {p : String} {af : Array Edge} {g : Option (Nat × Bool)} {d : Tmp} {C : World → Prop}
end
end Go.Proofs.YtddkdgodgflmlaaGreatDoor

namespace Go.Proofs.YtddkdgodgflmlaaGreatDoor
open Go.RowKit
set_option maxHeartbeats 8000000
set_option maxRecDepth 100000

def noM : MacV := ⟨false, 0, 0, []⟩
end Go.Proofs.YtddkdgodgflmlaaGreatDoor

namespace Go.Proofs.YtddkdgodgflmlaaGreatDoor
open Go.RowKit
set_option maxHeartbeats 2000000
set_option maxRecDepth 100000

section
variable {P : Program} {t e : TypeId} {w : World} {v : Value} {l : List Int} {y : Int}
end
/-- what an append leaves of the shorter slice. -/
def Sib (v : Value) (l : List Int) (v' : Value) (T M : List Pc) : Prop :=
 (T = M ∧ ∃ g c, v = .slice (some ⟨g, 0, none⟩) l.length c ∧ v' = .slice (some ⟨g, 0, none⟩) (l.length + 1) c) ∨ T = pOwn cInt 1 3 v l :: M
theorem own_shorter {e : TypeId} {w : World} {g c : Nat} {l : List Int} {y : Int} {B : Nat} (h : Own cInt 1 B e w (.slice (some ⟨g, 0, none⟩) (l.length + 1) c) (l ++ [y])) : Own cInt 1 B e w (.slice (some ⟨g, 0, none⟩) l.length c) l := by
 obtain ⟨h1, h2, h3⟩ := h
 have hfl : ∀ L : List Int, (L.flatMap fun x => (cInt x).cells.toList).length = L.length * 1 := fun L => flat_len _ 1 (fun x => by simpa using cIntS x) L
 refine ⟨h1, hfl l, ?_⟩
 rcases h3 with ⟨h3, _⟩ | ⟨g', c', cur, hv, hB, hg, hnc, hcm, hcs, htk⟩
 ·cases h3
 ·simp only [Value.slice.injEq, Option.some.injEq, Addr.mk.injEq, and_true] at hv
  obtain ⟨rfl, _, rfl⟩ := hv
  refine .inr ⟨g, c, cur, rfl, hB, hg, ?_, hcm, hcs, ?_⟩
  ·simp at hnc; omega
  ·rw [List.flatMap_append] at htk
   have h4 := congrArg (List.take (l.length * 1)) htk
   rw [List.take_take, List.length_append, List.length_cons, List.length_nil] at h4
   rw [show min (l.length * 1) ((l.length + (0 + 1)) * 1) = l.length * 1 by omega] at h4
   rw [h4, ← hfl l, List.take_left]
theorem Sib.back {B : Nat} {w0 w : World} {v v' : Value} {l : List Int} {y : Int} {T M : List Pc} {p q : Pc} (h : Sib v l v' T M) (hS : SL B w0 w (p :: q :: pOwn cInt 1 3 v' (l ++ [y]) :: T)) : SL B w0 w (p :: q :: pOwn cInt 1 3 v l :: M) := by
 rcases h with ⟨rfl, g, c, rfl, rfl⟩ | rfl
 ·exact hS.weaken 2 rfl (pOwn cInt 1 3 (.slice (some ⟨g, 0, none⟩) l.length c) l) (fun b hb => ⟨own_shorter hb.1, hb.2⟩)
 ·exact SL.pickA (K := [p, q, pOwn cInt 1 3 v' (l ++ [y]), pOwn cInt 1 3 v l]) (M := M) hS [0, 1, 3] (by decide) (by simp) [p, q, pOwn cInt 1 3 v l] rfl
section
variable {ops : Array Oper} {rest : List Oper} {a : Act} {Q : Exit → Act → World → Prop} {w0 w : World} {M : List Pc} {B : Nat} {v : Value} {l : List Int}
end

end Go.Proofs.YtddkdgodgflmlaaGreatDoor

namespace Go.Proofs.YtddkdgodgflmlaaGreatDoor
open Go.RowKit
set_option maxHeartbeats 1000000
set_option maxRecDepth 100000

/-- digits to the base 10^9 of a small number. -/
def wD (n : Nat) : List Int := if n = 0 then [] else [(n : Int)]
end Go.Proofs.YtddkdgodgflmlaaGreatDoor

namespace Go.Proofs.YtddkdgodgflmlaaGreatDoor
open Go.RowKit
set_option maxHeartbeats 1000000
set_option maxRecDepth 100000

theorem reps_of_own {α : Type} {c : α → Value} {sz B : Nat} {e : TypeId} {w : World} {a : Option Addr} {n cap : Nat} {l : List α} (h : Own c sz B e w (.slice a n cap) l) (hn : n = l.length) : Reps c sz w a cap l := by
 subst hn
 obtain ⟨a', cap', e1, hr, _⟩ := h.reps
 cases e1
 exact hr

end Go.Proofs.YtddkdgodgflmlaaGreatDoor

namespace Go.Proofs.YtddkdgodgflmlaaGreatDoor
open Go.RowKit
set_option maxHeartbeats 1000000
set_option maxRecDepth 100000

end Go.Proofs.YtddkdgodgflmlaaGreatDoor

namespace Go.Proofs.YtddkdgodgflmlaaGreatDoor
open Go.RowKit
set_option maxHeartbeats 1000000
set_option maxRecDepth 100000

end Go.Proofs.YtddkdgodgflmlaaGreatDoor

namespace Go.Proofs.YtddkdgodgflmlaaGreatDoor
open Go.RowKit
set_option maxHeartbeats 2000000
set_option maxRecDepth 100000

end Go.Proofs.YtddkdgodgflmlaaGreatDoor

namespace Go.Proofs.YtddkdgodgflmlaaGreatDoor
open Go.RowKit
set_option maxHeartbeats 2000000
set_option maxRecDepth 100000

/-- an integer of the reference that is not negative, and small. -/
def NatR (w : World) (v : Value) (n : Nat) : Prop := ∃ a cap, v = .agg #[.bool false, .slice a (wD n).length cap] ∧ Ints w a cap (wD n)
theorem NatR.below {w w' : World} {v : Value} {n : Nat} (h : NatR w v n) (hb : Below w.heap.size w w') : NatR w' v n := by
 obtain ⟨a, cap, h1, h2⟩ := h; exact ⟨a, cap, h1, h2.below hb⟩

end Go.Proofs.YtddkdgodgflmlaaGreatDoor

namespace Go.Proofs.YtddkdgodgflmlaaGreatDoor
open Go.RowKit
set_option maxHeartbeats 2000000
set_option maxRecDepth 100000

end Go.Proofs.YtddkdgodgflmlaaGreatDoor

namespace Go.Proofs.YtddkdgodgflmlaaGreatDoor
open Go.RowKit
set_option maxRecDepth 100000

theorem gPow : Tryz.prog.globalNamed "internal/strconv.uint64pow10" = some 5 := by kernel_rfl
abbrev TabW (w : World) : Prop := Lib.TabIs Tryz.prog w "internal/strconv.uint64pow10" .u64 Lib.pow10Tab
theorem TabW.below {w w' : World} (h : TabW w) (hb : Below w.heap.size w w') : TabW w' := Joins.tab_stays gPow h hb (Nat.le_refl _)
end Go.Proofs.YtddkdgodgflmlaaGreatDoor

namespace Go.Proofs.YtddkdgodgflmlaaGreatDoor
open Go.RowKit
set_option maxRecDepth 100000

def isDig (b : UInt8) : Prop := 48 ≤ b.toNat ∧ b.toNat ≤ 57
instance (b : UInt8) : Decidable (isDig b) := inferInstanceAs (Decidable (_ ∧ _))
/-- a decimal number without zeros ahead. -/
def canon (l : List UInt8) : Prop := l ≠ [] ∧ (1 < l.length → l.head? ≠ some 48) ∧ ∀ b ∈ l, isDig b
instance (l : List UInt8) : Decidable (canon l) := inferInstanceAs (Decidable (_ ∧ _ ∧ _))
end Go.Proofs.YtddkdgodgflmlaaGreatDoor

namespace Go.Proofs.YtddkdgodgflmlaaGreatDoor
open Go.RowKit
set_option maxHeartbeats 4000000
set_option maxRecDepth 100000

/-- a text's answer: the moves, the number of a word, the error. -/
def RetT (W : World) (R : List (Int × Int) × Int × Int) (r : Ending) (w' : World) : Prop :=
 ∃ a cap, r = .returned (.tuple #[.slice a R.1.length cap, .int .i64 R.2.1, .int .i64 R.2.2]) ∧ Pairs w' a cap R.1 ∧ Below W.heap.size W w'
theorem RetT.none {W w' : World} {R : List (Int × Int) × Int × Int} {r : Ending} {k e : Int} (hR : R = ([], k, e)) (h1 : r = .returned (.tuple #[.slice none 0 0, .int .i64 k, .int .i64 e])) (hb : Below W.heap.size W w') : RetT W R r w' := by
 subst hR; exact ⟨.none, 0, h1, pairs_nil _, hb⟩
end Go.Proofs.YtddkdgodgflmlaaGreatDoor

namespace Go.Proofs.YtddkdgodgflmlaaGreatDoor
open Go.RowKit
set_option maxHeartbeats 4000000
set_option maxRecDepth 100000

end Go.Proofs.YtddkdgodgflmlaaGreatDoor

namespace Go.Proofs.YtddkdgodgflmlaaGreatDoor
open Go.RowKit
set_option maxHeartbeats 4000000
set_option maxRecDepth 100000

section
variable {P : Program} {ops : Array Oper} {rest : List Oper} {a : Act} {Qa : Act → Prop} {α : Type} {c : α → Value} {sz bytes : Nat} {t e t2 e2 : TypeId} {z : Value} {ad : Option Addr} {cap : Nat} {l : List α} {k : Int} {w : World}
 {d1 d2 d3 : Tmp} {ty1 ty2 ty3 : TypeId} {p1 p2 p3 : String} {s x : Operand} {af1 af2 af3 : Array Edge} {j : Nat}
end

end Go.Proofs.YtddkdgodgflmlaaGreatDoor

namespace Go.Proofs.YtddkdgodgflmlaaGreatDoor
open Go.RowKit
set_option maxRecDepth 100000

section
open Go.ChangeMaps
variable {H : Type} {enc : TypeId × Value → H} {W : World}
end
end Go.Proofs.YtddkdgodgflmlaaGreatDoor

namespace Go.Proofs.YtddkdgodgflmlaaGreatDoor
open Go.RowKit
set_option maxHeartbeats 8000000
set_option maxRecDepth 100000

/-- a machine and an error came back. -/
def RetMac (W : World) (m : MacV) (e : Int) (r : Ending) (w' : World) : Prop := ∃ a c, r = .returned (.tuple #[mV m a c, .int .i64 e]) ∧ SL W.heap.size W w' [pOwn cInt 1 3 (.slice a m.sw.length c) m.sw]
section
variable {ops : Array Oper} {rest : List Oper} {a : Act} {Q : Exit → Act → World → Prop} {w0 w : World} {L : List Pc} {B : Nat} {ty : TypeId} {p : String} {af : Array Edge}
end
end Go.Proofs.YtddkdgodgflmlaaGreatDoor

namespace Go.Proofs.YtddkdgodgflmlaaGreatDoor
open Go.RowKit
set_option maxHeartbeats 8000000
set_option maxRecDepth 100000

theorem cm_a00 (m : MacV) (ad : Option Addr) (cap : Nat) (w : World) (hR : Ints w ad cap m.sw) (hI : -9223372036854775808 ≤ m.gears ∧ m.gears ≤ 9223372036854775807) (hr : m.ring = false) (q : Int) (hq : m.gears.tmod 2 = q) (hd1 : decide (m.gears < 1) = true) (ht : (m.turn != 1) = false) (HV : Hid (macE m = 3)) :
  Calls Tryz.prog 55 #[mV m ad cap] w fun r w' => r = .returned (.int .i64 (macE m)) ∧ Below w.heap.size w w' := by
 have hcap := hR.le
 have hmx := hR.max
 unfold mV
 rw [hr]
 clear hr
 go_enter Tryz.func55, Tryz.ntmps55
 go_wp2_with fail
 have hS := (SL.nil w).box (.cells #[.bool false, .int .i64 m.gears, .int .i64 m.turn, .slice ad m.sw.length cap] 45)
 have q1 := (hS.blk 0 rfl).1
 refine wp_region_qt 34 kR kR ?_
 simp only [List.take_succ_cons, List.take_zero, List.drop_succ_cons, List.drop_zero]
 repeat (first | ((with_reducible refine wpB_load F_boolM wU wU q1 wU ?_); (try simp only [Act.put, pA, pB, pC])) | ((with_reducible refine wpB_load F_sliceM wU wU q1 wU ?_); (try simp only [Act.put, pA, pB, pC])) | ((with_reducible refine wpB_when wU wU wU ?_); (try simp only [Act.put, pA, pB, pC])) | ((with_reducible refine wpQ_skip wU ?_); (try simp only [Act.put, pA, pB, pC])) |  ((with_reducible refine wpB_load (by first | exact F_int | exact F_u64s) wU wU (by assumption) wU ?_); (try simp only [Act.put, pA, pB, pC])) | ((refine wpQ_oneG ?_ wU (fun w' => ?_) ?_); rotate_left; (go_simp; rfl); (try simp only [Act.put, pA, pB, pC])))
 refine wpQuiet_nil ?_
 intro w1 hb1
 have hS1 := hS.mono hb1
 go_wp2_with (go_at_call 66; refine (mfirst_any _ _ [_, _, _, _] _ (reps_newN cIntS [_, _, _, _] 4 rfl (by decide) _ _ (by simp) rfl)).mono ?_; rw [firstE_head (by decide)]; rintro e w' ⟨rfl, rfl⟩)
 all_goals go_ret
 all_goals exact ⟨by rw [HV.out]; rfl, bal hS1.b _⟩
theorem cm_b00 (m : MacV) (ad : Option Addr) (cap : Nat) (w : World) (hR : Ints w ad cap m.sw) (hI : -9223372036854775808 ≤ m.gears ∧ m.gears ≤ 9223372036854775807) (hr : m.ring = false) (q : Int) (hq : m.gears.tmod 2 = q) (n1 : decide (m.gears < 1) = false) (hd2 : decide (16 < m.gears) = true) (ht : (m.turn != 1) = false) (HV : Hid (macE m = 3)) :
  Calls Tryz.prog 55 #[mV m ad cap] w fun r w' => r = .returned (.int .i64 (macE m)) ∧ Below w.heap.size w w' := by
 have hcap := hR.le
 have hmx := hR.max
 unfold mV
 rw [hr]
 clear hr
 go_enter Tryz.func55, Tryz.ntmps55
 go_wp2_with fail
 have hS := (SL.nil w).box (.cells #[.bool false, .int .i64 m.gears, .int .i64 m.turn, .slice ad m.sw.length cap] 45)
 have q1 := (hS.blk 0 rfl).1
 refine wp_region_qt 34 kR kR ?_
 simp only [List.take_succ_cons, List.take_zero, List.drop_succ_cons, List.drop_zero]
 repeat (first | ((with_reducible refine wpB_load F_boolM wU wU q1 wU ?_); (try simp only [Act.put, pA, pB, pC])) | ((with_reducible refine wpB_load F_sliceM wU wU q1 wU ?_); (try simp only [Act.put, pA, pB, pC])) | ((with_reducible refine wpB_when wU wU wU ?_); (try simp only [Act.put, pA, pB, pC])) | ((with_reducible refine wpQ_skip wU ?_); (try simp only [Act.put, pA, pB, pC])) |  ((with_reducible refine wpB_load (by first | exact F_int | exact F_u64s) wU wU (by assumption) wU ?_); (try simp only [Act.put, pA, pB, pC])) | ((refine wpQ_oneG ?_ wU (fun w' => ?_) ?_); rotate_left; (go_simp; rfl); (try simp only [Act.put, pA, pB, pC])))
 refine wpQuiet_nil ?_
 intro w1 hb1
 have hS1 := hS.mono hb1
 go_wp2_with (go_at_call 66; refine (mfirst_any _ _ [_, _, _, _] _ (reps_newN cIntS [_, _, _, _] 4 rfl (by decide) _ _ (by simp) rfl)).mono ?_; rw [firstE_head (by decide)]; rintro e w' ⟨rfl, rfl⟩)
 all_goals go_ret
 all_goals exact ⟨by rw [HV.out]; rfl, bal hS1.b _⟩
theorem cm_a01 (m : MacV) (ad : Option Addr) (cap : Nat) (w : World) (hR : Ints w ad cap m.sw) (hI : -9223372036854775808 ≤ m.gears ∧ m.gears ≤ 9223372036854775807) (hr : m.ring = false) (q : Int) (hq : m.gears.tmod 2 = q) (hd1 : decide (m.gears < 1) = true) (ht : (m.turn != 1) = true) (HV : Hid (macE m = 3)) :
  Calls Tryz.prog 55 #[mV m ad cap] w fun r w' => r = .returned (.int .i64 (macE m)) ∧ Below w.heap.size w w' := by
 have hcap := hR.le
 have hmx := hR.max
 unfold mV
 rw [hr]
 clear hr
 go_enter Tryz.func55, Tryz.ntmps55
 go_wp2_with fail
 have hS := (SL.nil w).box (.cells #[.bool false, .int .i64 m.gears, .int .i64 m.turn, .slice ad m.sw.length cap] 45)
 have q1 := (hS.blk 0 rfl).1
 refine wp_region_qt 34 kR kR ?_
 simp only [List.take_succ_cons, List.take_zero, List.drop_succ_cons, List.drop_zero]
 repeat (first | ((with_reducible refine wpB_load F_boolM wU wU q1 wU ?_); (try simp only [Act.put, pA, pB, pC])) | ((with_reducible refine wpB_load F_sliceM wU wU q1 wU ?_); (try simp only [Act.put, pA, pB, pC])) | ((with_reducible refine wpB_when wU wU wU ?_); (try simp only [Act.put, pA, pB, pC])) | ((with_reducible refine wpQ_skip wU ?_); (try simp only [Act.put, pA, pB, pC])) |  ((with_reducible refine wpB_load (by first | exact F_int | exact F_u64s) wU wU (by assumption) wU ?_); (try simp only [Act.put, pA, pB, pC])) | ((refine wpQ_oneG ?_ wU (fun w' => ?_) ?_); rotate_left; (go_simp; rfl); (try simp only [Act.put, pA, pB, pC])))
 refine wpQuiet_nil ?_
 intro w1 hb1
 have hS1 := hS.mono hb1
 go_wp2_with (go_at_call 66; refine (mfirst_any _ _ [_, _, _, _] _ (reps_newN cIntS [_, _, _, _] 4 rfl (by decide) _ _ (by simp) rfl)).mono ?_; rw [firstE_head (by decide)]; rintro e w' ⟨rfl, rfl⟩)
 all_goals go_ret
 all_goals exact ⟨by rw [HV.out]; rfl, bal hS1.b _⟩
theorem cm_b01 (m : MacV) (ad : Option Addr) (cap : Nat) (w : World) (hR : Ints w ad cap m.sw) (hI : -9223372036854775808 ≤ m.gears ∧ m.gears ≤ 9223372036854775807) (hr : m.ring = false) (q : Int) (hq : m.gears.tmod 2 = q) (n1 : decide (m.gears < 1) = false) (hd2 : decide (16 < m.gears) = true) (ht : (m.turn != 1) = true) (HV : Hid (macE m = 3)) :
  Calls Tryz.prog 55 #[mV m ad cap] w fun r w' => r = .returned (.int .i64 (macE m)) ∧ Below w.heap.size w w' := by
 have hcap := hR.le
 have hmx := hR.max
 unfold mV
 rw [hr]
 clear hr
 go_enter Tryz.func55, Tryz.ntmps55
 go_wp2_with fail
 have hS := (SL.nil w).box (.cells #[.bool false, .int .i64 m.gears, .int .i64 m.turn, .slice ad m.sw.length cap] 45)
 have q1 := (hS.blk 0 rfl).1
 refine wp_region_qt 34 kR kR ?_
 simp only [List.take_succ_cons, List.take_zero, List.drop_succ_cons, List.drop_zero]
 repeat (first | ((with_reducible refine wpB_load F_boolM wU wU q1 wU ?_); (try simp only [Act.put, pA, pB, pC])) | ((with_reducible refine wpB_load F_sliceM wU wU q1 wU ?_); (try simp only [Act.put, pA, pB, pC])) | ((with_reducible refine wpB_when wU wU wU ?_); (try simp only [Act.put, pA, pB, pC])) | ((with_reducible refine wpQ_skip wU ?_); (try simp only [Act.put, pA, pB, pC])) |  ((with_reducible refine wpB_load (by first | exact F_int | exact F_u64s) wU wU (by assumption) wU ?_); (try simp only [Act.put, pA, pB, pC])) | ((refine wpQ_oneG ?_ wU (fun w' => ?_) ?_); rotate_left; (go_simp; rfl); (try simp only [Act.put, pA, pB, pC])))
 refine wpQuiet_nil ?_
 intro w1 hb1
 have hS1 := hS.mono hb1
 go_wp2_with (go_at_call 66; refine (mfirst_any _ _ [_, _, _, _] _ (reps_newN cIntS [_, _, _, _] 4 rfl (by decide) _ _ (by simp) rfl)).mono ?_; rw [firstE_head (by decide)]; rintro e w' ⟨rfl, rfl⟩)
 all_goals go_ret
 all_goals exact ⟨by rw [HV.out]; rfl, bal hS1.b _⟩
theorem cm_a10 (m : MacV) (ad : Option Addr) (cap : Nat) (w : World) (hR : Ints w ad cap m.sw) (hI : -9223372036854775808 ≤ m.gears ∧ m.gears ≤ 9223372036854775807) (hr : m.ring = true) (q : Int) (hq : m.gears.tmod 2 = q) (hd1 : decide (m.gears < 1) = true) (ht : (m.turn != 1) = false) (HV : Hid (macE m = 3)) :
  Calls Tryz.prog 55 #[mV m ad cap] w fun r w' => r = .returned (.int .i64 (macE m)) ∧ Below w.heap.size w w' := by
 have hcap := hR.le
 have hmx := hR.max
 unfold mV
 rw [hr]
 clear hr
 go_enter Tryz.func55, Tryz.ntmps55
 go_wp2_with fail
 have hS := (SL.nil w).box (.cells #[.bool true, .int .i64 m.gears, .int .i64 m.turn, .slice ad m.sw.length cap] 45)
 have q1 := (hS.blk 0 rfl).1
 refine wp_region_qt 34 kR kR ?_
 simp only [List.take_succ_cons, List.take_zero, List.drop_succ_cons, List.drop_zero]
 repeat (first | ((with_reducible refine wpB_load F_boolM wU wU q1 wU ?_); (try simp only [Act.put, pA, pB, pC])) | ((with_reducible refine wpB_load F_sliceM wU wU q1 wU ?_); (try simp only [Act.put, pA, pB, pC])) | ((with_reducible refine wpB_when wU wU wU ?_); (try simp only [Act.put, pA, pB, pC])) | ((with_reducible refine wpQ_skip wU ?_); (try simp only [Act.put, pA, pB, pC])) |  ((with_reducible refine wpB_load (by first | exact F_int | exact F_u64s) wU wU (by assumption) wU ?_); (try simp only [Act.put, pA, pB, pC])) | ((refine wpQ_oneG ?_ wU (fun w' => ?_) ?_); rotate_left; (go_simp; rfl); (try simp only [Act.put, pA, pB, pC])))
 refine wpQuiet_nil ?_
 intro w1 hb1
 have hS1 := hS.mono hb1
 go_wp2_with (go_at_call 66; refine (mfirst_any _ _ [_, _, _, _] _ (reps_newN cIntS [_, _, _, _] 4 rfl (by decide) _ _ (by simp) rfl)).mono ?_; rw [firstE_head (by decide)]; rintro e w' ⟨rfl, rfl⟩)
 all_goals go_ret
 all_goals exact ⟨by rw [HV.out]; rfl, bal hS1.b _⟩
theorem cm_b10 (m : MacV) (ad : Option Addr) (cap : Nat) (w : World) (hR : Ints w ad cap m.sw) (hI : -9223372036854775808 ≤ m.gears ∧ m.gears ≤ 9223372036854775807) (hr : m.ring = true) (q : Int) (hq : m.gears.tmod 2 = q) (n1 : decide (m.gears < 1) = false) (hd2 : decide (16 < m.gears) = true) (ht : (m.turn != 1) = false) (HV : Hid (macE m = 3)) :
  Calls Tryz.prog 55 #[mV m ad cap] w fun r w' => r = .returned (.int .i64 (macE m)) ∧ Below w.heap.size w w' := by
 have hcap := hR.le
 have hmx := hR.max
 unfold mV
 rw [hr]
 clear hr
 go_enter Tryz.func55, Tryz.ntmps55
 go_wp2_with fail
 have hS := (SL.nil w).box (.cells #[.bool true, .int .i64 m.gears, .int .i64 m.turn, .slice ad m.sw.length cap] 45)
 have q1 := (hS.blk 0 rfl).1
 refine wp_region_qt 34 kR kR ?_
 simp only [List.take_succ_cons, List.take_zero, List.drop_succ_cons, List.drop_zero]
 repeat (first | ((with_reducible refine wpB_load F_boolM wU wU q1 wU ?_); (try simp only [Act.put, pA, pB, pC])) | ((with_reducible refine wpB_load F_sliceM wU wU q1 wU ?_); (try simp only [Act.put, pA, pB, pC])) | ((with_reducible refine wpB_when wU wU wU ?_); (try simp only [Act.put, pA, pB, pC])) | ((with_reducible refine wpQ_skip wU ?_); (try simp only [Act.put, pA, pB, pC])) |  ((with_reducible refine wpB_load (by first | exact F_int | exact F_u64s) wU wU (by assumption) wU ?_); (try simp only [Act.put, pA, pB, pC])) | ((refine wpQ_oneG ?_ wU (fun w' => ?_) ?_); rotate_left; (go_simp; rfl); (try simp only [Act.put, pA, pB, pC])))
 refine wpQuiet_nil ?_
 intro w1 hb1
 have hS1 := hS.mono hb1
 go_wp2_with (go_at_call 66; refine (mfirst_any _ _ [_, _, _, _] _ (reps_newN cIntS [_, _, _, _] 4 rfl (by decide) _ _ (by simp) rfl)).mono ?_; rw [firstE_head (by decide)]; rintro e w' ⟨rfl, rfl⟩)
 all_goals go_ret
 all_goals exact ⟨by rw [HV.out]; rfl, bal hS1.b _⟩
theorem cm_a11 (m : MacV) (ad : Option Addr) (cap : Nat) (w : World) (hR : Ints w ad cap m.sw) (hI : -9223372036854775808 ≤ m.gears ∧ m.gears ≤ 9223372036854775807) (hr : m.ring = true) (q : Int) (hq : m.gears.tmod 2 = q) (hd1 : decide (m.gears < 1) = true) (ht : (m.turn != 1) = true) (HV : Hid (macE m = 3)) :
  Calls Tryz.prog 55 #[mV m ad cap] w fun r w' => r = .returned (.int .i64 (macE m)) ∧ Below w.heap.size w w' := by
 have hcap := hR.le
 have hmx := hR.max
 unfold mV
 rw [hr]
 clear hr
 go_enter Tryz.func55, Tryz.ntmps55
 go_wp2_with fail
 have hS := (SL.nil w).box (.cells #[.bool true, .int .i64 m.gears, .int .i64 m.turn, .slice ad m.sw.length cap] 45)
 have q1 := (hS.blk 0 rfl).1
 refine wp_region_qt 34 kR kR ?_
 simp only [List.take_succ_cons, List.take_zero, List.drop_succ_cons, List.drop_zero]
 repeat (first | ((with_reducible refine wpB_load F_boolM wU wU q1 wU ?_); (try simp only [Act.put, pA, pB, pC])) | ((with_reducible refine wpB_load F_sliceM wU wU q1 wU ?_); (try simp only [Act.put, pA, pB, pC])) | ((with_reducible refine wpB_when wU wU wU ?_); (try simp only [Act.put, pA, pB, pC])) | ((with_reducible refine wpQ_skip wU ?_); (try simp only [Act.put, pA, pB, pC])) |  ((with_reducible refine wpB_load (by first | exact F_int | exact F_u64s) wU wU (by assumption) wU ?_); (try simp only [Act.put, pA, pB, pC])) | ((refine wpQ_oneG ?_ wU (fun w' => ?_) ?_); rotate_left; (go_simp; rfl); (try simp only [Act.put, pA, pB, pC])))
 refine wpQuiet_nil ?_
 intro w1 hb1
 have hS1 := hS.mono hb1
 go_wp2_with (go_at_call 66; refine (mfirst_any _ _ [_, _, _, _] _ (reps_newN cIntS [_, _, _, _] 4 rfl (by decide) _ _ (by simp) rfl)).mono ?_; rw [firstE_head (by decide)]; rintro e w' ⟨rfl, rfl⟩)
 all_goals go_ret
 all_goals exact ⟨by rw [HV.out]; rfl, bal hS1.b _⟩
theorem cm_b11 (m : MacV) (ad : Option Addr) (cap : Nat) (w : World) (hR : Ints w ad cap m.sw) (hI : -9223372036854775808 ≤ m.gears ∧ m.gears ≤ 9223372036854775807) (hr : m.ring = true) (q : Int) (hq : m.gears.tmod 2 = q) (n1 : decide (m.gears < 1) = false) (hd2 : decide (16 < m.gears) = true) (ht : (m.turn != 1) = true) (HV : Hid (macE m = 3)) :
  Calls Tryz.prog 55 #[mV m ad cap] w fun r w' => r = .returned (.int .i64 (macE m)) ∧ Below w.heap.size w w' := by
 have hcap := hR.le
 have hmx := hR.max
 unfold mV
 rw [hr]
 clear hr
 go_enter Tryz.func55, Tryz.ntmps55
 go_wp2_with fail
 have hS := (SL.nil w).box (.cells #[.bool true, .int .i64 m.gears, .int .i64 m.turn, .slice ad m.sw.length cap] 45)
 have q1 := (hS.blk 0 rfl).1
 refine wp_region_qt 34 kR kR ?_
 simp only [List.take_succ_cons, List.take_zero, List.drop_succ_cons, List.drop_zero]
 repeat (first | ((with_reducible refine wpB_load F_boolM wU wU q1 wU ?_); (try simp only [Act.put, pA, pB, pC])) | ((with_reducible refine wpB_load F_sliceM wU wU q1 wU ?_); (try simp only [Act.put, pA, pB, pC])) | ((with_reducible refine wpB_when wU wU wU ?_); (try simp only [Act.put, pA, pB, pC])) | ((with_reducible refine wpQ_skip wU ?_); (try simp only [Act.put, pA, pB, pC])) |  ((with_reducible refine wpB_load (by first | exact F_int | exact F_u64s) wU wU (by assumption) wU ?_); (try simp only [Act.put, pA, pB, pC])) | ((refine wpQ_oneG ?_ wU (fun w' => ?_) ?_); rotate_left; (go_simp; rfl); (try simp only [Act.put, pA, pB, pC])))
 refine wpQuiet_nil ?_
 intro w1 hb1
 have hS1 := hS.mono hb1
 go_wp2_with (go_at_call 66; refine (mfirst_any _ _ [_, _, _, _] _ (reps_newN cIntS [_, _, _, _] 4 rfl (by decide) _ _ (by simp) rfl)).mono ?_; rw [firstE_head (by decide)]; rintro e w' ⟨rfl, rfl⟩)
 all_goals go_ret
 all_goals exact ⟨by rw [HV.out]; rfl, bal hS1.b _⟩
theorem cm_c0 (m : MacV) (ad : Option Addr) (cap : Nat) (w : World) (hR : Ints w ad cap m.sw) (hI : -9223372036854775808 ≤ m.gears ∧ m.gears ≤ 9223372036854775807) (hr : m.ring = true) (q : Int) (hq : m.gears.tmod 2 = q) (r1 : 1 ≤ m.gears) (r2 : m.gears ≤ 16) (n1 : decide (m.gears < 1) = false) (n2 : decide (16 < m.gears) = false) (hq1 : (q == 1) = true) (ht : (m.turn != 1) = false) (HV : Hid (macE m = 17)) :
  Calls Tryz.prog 55 #[mV m ad cap] w fun r w' => r = .returned (.int .i64 (macE m)) ∧ Below w.heap.size w w' := by
 have hcap := hR.le
 have hmx := hR.max
 unfold mV
 rw [hr]
 clear hr
 go_enter Tryz.func55, Tryz.ntmps55
 go_wp2_with fail
 have hS := (SL.nil w).box (.cells #[.bool true, .int .i64 m.gears, .int .i64 m.turn, .slice ad m.sw.length cap] 45)
 have q1 := (hS.blk 0 rfl).1
 refine wp_region_qt 34 kR kR ?_
 simp only [List.take_succ_cons, List.take_zero, List.drop_succ_cons, List.drop_zero]
 repeat (first | ((with_reducible refine wpB_load F_boolM wU wU q1 wU ?_); (try simp only [Act.put, pA, pB, pC])) | ((with_reducible refine wpB_load F_sliceM wU wU q1 wU ?_); (try simp only [Act.put, pA, pB, pC])) | ((with_reducible refine wpB_when wU wU wU ?_); (try simp only [Act.put, pA, pB, pC])) | ((with_reducible refine wpQ_skip wU ?_); (try simp only [Act.put, pA, pB, pC])) |  ((with_reducible refine wpB_load (by first | exact F_int | exact F_u64s) wU wU (by assumption) wU ?_); (try simp only [Act.put, pA, pB, pC])) | ((refine wpQ_oneG ?_ wU (fun w' => ?_) ?_); rotate_left; (go_simp; rfl); (try simp only [Act.put, pA, pB, pC])))
 refine wpQuiet_nil ?_
 intro w1 hb1
 have hS1 := hS.mono hb1
 go_wp2_with (go_at_call 66; refine (mfirst_any _ _ [_, _, _, _] _ (reps_newN cIntS [_, _, _, _] 4 rfl (by decide) _ _ (by simp) rfl)).mono ?_; rw [firstE_z, firstE_head (by decide)]; rintro e w' ⟨rfl, rfl⟩)
 all_goals go_ret
 all_goals exact ⟨by rw [HV.out]; rfl, bal hS1.b _⟩
theorem cm_c1 (m : MacV) (ad : Option Addr) (cap : Nat) (w : World) (hR : Ints w ad cap m.sw) (hI : -9223372036854775808 ≤ m.gears ∧ m.gears ≤ 9223372036854775807) (hr : m.ring = true) (q : Int) (hq : m.gears.tmod 2 = q) (r1 : 1 ≤ m.gears) (r2 : m.gears ≤ 16) (n1 : decide (m.gears < 1) = false) (n2 : decide (16 < m.gears) = false) (hq1 : (q == 1) = true) (ht : (m.turn != 1) = true) (HV : Hid (macE m = 17)) :
  Calls Tryz.prog 55 #[mV m ad cap] w fun r w' => r = .returned (.int .i64 (macE m)) ∧ Below w.heap.size w w' := by
 have hcap := hR.le
 have hmx := hR.max
 unfold mV
 rw [hr]
 clear hr
 go_enter Tryz.func55, Tryz.ntmps55
 go_wp2_with fail
 have hS := (SL.nil w).box (.cells #[.bool true, .int .i64 m.gears, .int .i64 m.turn, .slice ad m.sw.length cap] 45)
 have q1 := (hS.blk 0 rfl).1
 refine wp_region_qt 34 kR kR ?_
 simp only [List.take_succ_cons, List.take_zero, List.drop_succ_cons, List.drop_zero]
 repeat (first | ((with_reducible refine wpB_load F_boolM wU wU q1 wU ?_); (try simp only [Act.put, pA, pB, pC])) | ((with_reducible refine wpB_load F_sliceM wU wU q1 wU ?_); (try simp only [Act.put, pA, pB, pC])) | ((with_reducible refine wpB_when wU wU wU ?_); (try simp only [Act.put, pA, pB, pC])) | ((with_reducible refine wpQ_skip wU ?_); (try simp only [Act.put, pA, pB, pC])) |  ((with_reducible refine wpB_load (by first | exact F_int | exact F_u64s) wU wU (by assumption) wU ?_); (try simp only [Act.put, pA, pB, pC])) | ((refine wpQ_oneG ?_ wU (fun w' => ?_) ?_); rotate_left; (go_simp; rfl); (try simp only [Act.put, pA, pB, pC])))
 refine wpQuiet_nil ?_
 intro w1 hb1
 have hS1 := hS.mono hb1
 go_wp2_with (go_at_call 66; refine (mfirst_any _ _ [_, _, _, _] _ (reps_newN cIntS [_, _, _, _] 4 rfl (by decide) _ _ (by simp) rfl)).mono ?_; rw [firstE_z, firstE_head (by decide)]; rintro e w' ⟨rfl, rfl⟩)
 all_goals go_ret
 all_goals exact ⟨by rw [HV.out]; rfl, bal hS1.b _⟩
theorem cm_d0 (m : MacV) (ad : Option Addr) (cap : Nat) (w : World) (hR : Ints w ad cap m.sw) (hI : -9223372036854775808 ≤ m.gears ∧ m.gears ≤ 9223372036854775807) (hr : m.ring = false) (q : Int) (hq : m.gears.tmod 2 = q) (r1 : 1 ≤ m.gears) (r2 : m.gears ≤ 16) (n1 : decide (m.gears < 1) = false) (n2 : decide (16 < m.gears) = false)  (ht : (m.turn != 1) = true) (htn : (m.turn != -1) = true) (HV : Hid (macE m = 3)) :
  Calls Tryz.prog 55 #[mV m ad cap] w fun r w' => r = .returned (.int .i64 (macE m)) ∧ Below w.heap.size w w' := by
 have hcap := hR.le
 have hmx := hR.max
 unfold mV
 rw [hr]
 clear hr
 go_enter Tryz.func55, Tryz.ntmps55
 go_wp2_with fail
 have hS := (SL.nil w).box (.cells #[.bool false, .int .i64 m.gears, .int .i64 m.turn, .slice ad m.sw.length cap] 45)
 have q1 := (hS.blk 0 rfl).1
 refine wp_region_qt 34 kR kR ?_
 simp only [List.take_succ_cons, List.take_zero, List.drop_succ_cons, List.drop_zero]
 repeat (first | ((with_reducible refine wpB_load F_boolM wU wU q1 wU ?_); (try simp only [Act.put, pA, pB, pC])) | ((with_reducible refine wpB_load F_sliceM wU wU q1 wU ?_); (try simp only [Act.put, pA, pB, pC])) | ((with_reducible refine wpB_when wU wU wU ?_); (try simp only [Act.put, pA, pB, pC])) | ((with_reducible refine wpQ_skip wU ?_); (try simp only [Act.put, pA, pB, pC])) |  ((with_reducible refine wpB_load (by first | exact F_int | exact F_u64s) wU wU (by assumption) wU ?_); (try simp only [Act.put, pA, pB, pC])) | ((refine wpQ_oneG ?_ wU (fun w' => ?_) ?_); rotate_left; (go_simp; rfl); (try simp only [Act.put, pA, pB, pC])))
 refine wpQuiet_nil ?_
 intro w1 hb1
 have hS1 := hS.mono hb1
 go_wp2_with (go_at_call 66; refine (mfirst_any _ _ [_, _, _, _] _ (reps_newN cIntS [_, _, _, _] 4 rfl (by decide) _ _ (by simp) rfl)).mono ?_; rw [firstE_z, firstE_z, firstE_head (by decide)]; rintro e w' ⟨rfl, rfl⟩)
 all_goals go_ret
 all_goals exact ⟨by rw [HV.out]; rfl, bal hS1.b _⟩
theorem cm_d1 (m : MacV) (ad : Option Addr) (cap : Nat) (w : World) (hR : Ints w ad cap m.sw) (hI : -9223372036854775808 ≤ m.gears ∧ m.gears ≤ 9223372036854775807) (hr : m.ring = true) (q : Int) (hq : m.gears.tmod 2 = q) (r1 : 1 ≤ m.gears) (r2 : m.gears ≤ 16) (n1 : decide (m.gears < 1) = false) (n2 : decide (16 < m.gears) = false) (hqb : (q == 1) = false) (ht : (m.turn != 1) = true) (htn : (m.turn != -1) = true) (HV : Hid (macE m = 3)) :
  Calls Tryz.prog 55 #[mV m ad cap] w fun r w' => r = .returned (.int .i64 (macE m)) ∧ Below w.heap.size w w' := by
 have hcap := hR.le
 have hmx := hR.max
 unfold mV
 rw [hr]
 clear hr
 go_enter Tryz.func55, Tryz.ntmps55
 go_wp2_with fail
 have hS := (SL.nil w).box (.cells #[.bool true, .int .i64 m.gears, .int .i64 m.turn, .slice ad m.sw.length cap] 45)
 have q1 := (hS.blk 0 rfl).1
 refine wp_region_qt 34 kR kR ?_
 simp only [List.take_succ_cons, List.take_zero, List.drop_succ_cons, List.drop_zero]
 repeat (first | ((with_reducible refine wpB_load F_boolM wU wU q1 wU ?_); (try simp only [Act.put, pA, pB, pC])) | ((with_reducible refine wpB_load F_sliceM wU wU q1 wU ?_); (try simp only [Act.put, pA, pB, pC])) | ((with_reducible refine wpB_when wU wU wU ?_); (try simp only [Act.put, pA, pB, pC])) | ((with_reducible refine wpQ_skip wU ?_); (try simp only [Act.put, pA, pB, pC])) |  ((with_reducible refine wpB_load (by first | exact F_int | exact F_u64s) wU wU (by assumption) wU ?_); (try simp only [Act.put, pA, pB, pC])) | ((refine wpQ_oneG ?_ wU (fun w' => ?_) ?_); rotate_left; (go_simp; rfl); (try simp only [Act.put, pA, pB, pC])))
 refine wpQuiet_nil ?_
 intro w1 hb1
 have hS1 := hS.mono hb1
 go_wp2_with (go_at_call 66; refine (mfirst_any _ _ [_, _, _, _] _ (reps_newN cIntS [_, _, _, _] 4 rfl (by decide) _ _ (by simp) rfl)).mono ?_; rw [firstE_z, firstE_z, firstE_head (by decide)]; rintro e w' ⟨rfl, rfl⟩)
 all_goals go_ret
 all_goals exact ⟨by rw [HV.out]; rfl, bal hS1.b _⟩
theorem cm_e00 (m : MacV) (ad : Option Addr) (cap : Nat) (w : World) (hR : Ints w ad cap m.sw) (hI : -9223372036854775808 ≤ m.gears ∧ m.gears ≤ 9223372036854775807) (hr : m.ring = false) (q : Int) (hq : m.gears.tmod 2 = q) (r1 : 1 ≤ m.gears) (r2 : m.gears ≤ 16) (n1 : decide (m.gears < 1) = false) (n2 : decide (16 < m.gears) = false)  (ht : (m.turn != 1) = false)  (hd5 : decide (m.gears < m.sw.length) = true) (HV : Hid (macE m = 5)) :
  Calls Tryz.prog 55 #[mV m ad cap] w fun r w' => r = .returned (.int .i64 (macE m)) ∧ Below w.heap.size w w' := by
 have hcap := hR.le
 have hmx := hR.max
 unfold mV
 rw [hr]
 clear hr
 go_enter Tryz.func55, Tryz.ntmps55
 go_wp2_with fail
 have hS := (SL.nil w).box (.cells #[.bool false, .int .i64 m.gears, .int .i64 m.turn, .slice ad m.sw.length cap] 45)
 have q1 := (hS.blk 0 rfl).1
 refine wp_region_qt 34 kR kR ?_
 simp only [List.take_succ_cons, List.take_zero, List.drop_succ_cons, List.drop_zero]
 repeat (first | ((with_reducible refine wpB_load F_boolM wU wU q1 wU ?_); (try simp only [Act.put, pA, pB, pC])) | ((with_reducible refine wpB_load F_sliceM wU wU q1 wU ?_); (try simp only [Act.put, pA, pB, pC])) | ((with_reducible refine wpB_when wU wU wU ?_); (try simp only [Act.put, pA, pB, pC])) | ((with_reducible refine wpQ_skip wU ?_); (try simp only [Act.put, pA, pB, pC])) |  ((with_reducible refine wpB_load (by first | exact F_int | exact F_u64s) wU wU (by assumption) wU ?_); (try simp only [Act.put, pA, pB, pC])) | ((refine wpQ_oneG ?_ wU (fun w' => ?_) ?_); rotate_left; (go_simp; rfl); (try simp only [Act.put, pA, pB, pC])))
 refine wpQuiet_nil ?_
 intro w1 hb1
 have hS1 := hS.mono hb1
 go_wp2_with (go_at_call 66; refine (mfirst_any _ _ [_, _, _, _] _ (reps_newN cIntS [_, _, _, _] 4 rfl (by decide) _ _ (by simp) rfl)).mono ?_; rw [firstE_z, firstE_z, firstE_z, firstE_head (by decide)]; rintro e w' ⟨rfl, rfl⟩)
 all_goals go_ret
 all_goals exact ⟨by rw [HV.out]; rfl, bal hS1.b _⟩
theorem cm_e01 (m : MacV) (ad : Option Addr) (cap : Nat) (w : World) (hR : Ints w ad cap m.sw) (hI : -9223372036854775808 ≤ m.gears ∧ m.gears ≤ 9223372036854775807) (hr : m.ring = false) (q : Int) (hq : m.gears.tmod 2 = q) (r1 : 1 ≤ m.gears) (r2 : m.gears ≤ 16) (n1 : decide (m.gears < 1) = false) (n2 : decide (16 < m.gears) = false)  (ht : (m.turn != 1) = true) (htn : (m.turn != -1) = false) (hd5 : decide (m.gears < m.sw.length) = true) (HV : Hid (macE m = 5)) :
  Calls Tryz.prog 55 #[mV m ad cap] w fun r w' => r = .returned (.int .i64 (macE m)) ∧ Below w.heap.size w w' := by
 have hcap := hR.le
 have hmx := hR.max
 unfold mV
 rw [hr]
 clear hr
 go_enter Tryz.func55, Tryz.ntmps55
 go_wp2_with fail
 have hS := (SL.nil w).box (.cells #[.bool false, .int .i64 m.gears, .int .i64 m.turn, .slice ad m.sw.length cap] 45)
 have q1 := (hS.blk 0 rfl).1
 refine wp_region_qt 34 kR kR ?_
 simp only [List.take_succ_cons, List.take_zero, List.drop_succ_cons, List.drop_zero]
 repeat (first | ((with_reducible refine wpB_load F_boolM wU wU q1 wU ?_); (try simp only [Act.put, pA, pB, pC])) | ((with_reducible refine wpB_load F_sliceM wU wU q1 wU ?_); (try simp only [Act.put, pA, pB, pC])) | ((with_reducible refine wpB_when wU wU wU ?_); (try simp only [Act.put, pA, pB, pC])) | ((with_reducible refine wpQ_skip wU ?_); (try simp only [Act.put, pA, pB, pC])) |  ((with_reducible refine wpB_load (by first | exact F_int | exact F_u64s) wU wU (by assumption) wU ?_); (try simp only [Act.put, pA, pB, pC])) | ((refine wpQ_oneG ?_ wU (fun w' => ?_) ?_); rotate_left; (go_simp; rfl); (try simp only [Act.put, pA, pB, pC])))
 refine wpQuiet_nil ?_
 intro w1 hb1
 have hS1 := hS.mono hb1
 go_wp2_with (go_at_call 66; refine (mfirst_any _ _ [_, _, _, _] _ (reps_newN cIntS [_, _, _, _] 4 rfl (by decide) _ _ (by simp) rfl)).mono ?_; rw [firstE_z, firstE_z, firstE_z, firstE_head (by decide)]; rintro e w' ⟨rfl, rfl⟩)
 all_goals go_ret
 all_goals exact ⟨by rw [HV.out]; rfl, bal hS1.b _⟩
theorem cm_e10 (m : MacV) (ad : Option Addr) (cap : Nat) (w : World) (hR : Ints w ad cap m.sw) (hI : -9223372036854775808 ≤ m.gears ∧ m.gears ≤ 9223372036854775807) (hr : m.ring = true) (q : Int) (hq : m.gears.tmod 2 = q) (r1 : 1 ≤ m.gears) (r2 : m.gears ≤ 16) (n1 : decide (m.gears < 1) = false) (n2 : decide (16 < m.gears) = false) (hqb : (q == 1) = false) (ht : (m.turn != 1) = false)  (hd5 : decide (m.gears < m.sw.length) = true) (HV : Hid (macE m = 5)) :
  Calls Tryz.prog 55 #[mV m ad cap] w fun r w' => r = .returned (.int .i64 (macE m)) ∧ Below w.heap.size w w' := by
 have hcap := hR.le
 have hmx := hR.max
 unfold mV
 rw [hr]
 clear hr
 go_enter Tryz.func55, Tryz.ntmps55
 go_wp2_with fail
 have hS := (SL.nil w).box (.cells #[.bool true, .int .i64 m.gears, .int .i64 m.turn, .slice ad m.sw.length cap] 45)
 have q1 := (hS.blk 0 rfl).1
 refine wp_region_qt 34 kR kR ?_
 simp only [List.take_succ_cons, List.take_zero, List.drop_succ_cons, List.drop_zero]
 repeat (first | ((with_reducible refine wpB_load F_boolM wU wU q1 wU ?_); (try simp only [Act.put, pA, pB, pC])) | ((with_reducible refine wpB_load F_sliceM wU wU q1 wU ?_); (try simp only [Act.put, pA, pB, pC])) | ((with_reducible refine wpB_when wU wU wU ?_); (try simp only [Act.put, pA, pB, pC])) | ((with_reducible refine wpQ_skip wU ?_); (try simp only [Act.put, pA, pB, pC])) |  ((with_reducible refine wpB_load (by first | exact F_int | exact F_u64s) wU wU (by assumption) wU ?_); (try simp only [Act.put, pA, pB, pC])) | ((refine wpQ_oneG ?_ wU (fun w' => ?_) ?_); rotate_left; (go_simp; rfl); (try simp only [Act.put, pA, pB, pC])))
 refine wpQuiet_nil ?_
 intro w1 hb1
 have hS1 := hS.mono hb1
 go_wp2_with (go_at_call 66; refine (mfirst_any _ _ [_, _, _, _] _ (reps_newN cIntS [_, _, _, _] 4 rfl (by decide) _ _ (by simp) rfl)).mono ?_; rw [firstE_z, firstE_z, firstE_z, firstE_head (by decide)]; rintro e w' ⟨rfl, rfl⟩)
 all_goals go_ret
 all_goals exact ⟨by rw [HV.out]; rfl, bal hS1.b _⟩
theorem cm_e11 (m : MacV) (ad : Option Addr) (cap : Nat) (w : World) (hR : Ints w ad cap m.sw) (hI : -9223372036854775808 ≤ m.gears ∧ m.gears ≤ 9223372036854775807) (hr : m.ring = true) (q : Int) (hq : m.gears.tmod 2 = q) (r1 : 1 ≤ m.gears) (r2 : m.gears ≤ 16) (n1 : decide (m.gears < 1) = false) (n2 : decide (16 < m.gears) = false) (hqb : (q == 1) = false) (ht : (m.turn != 1) = true) (htn : (m.turn != -1) = false) (hd5 : decide (m.gears < m.sw.length) = true) (HV : Hid (macE m = 5)) :
  Calls Tryz.prog 55 #[mV m ad cap] w fun r w' => r = .returned (.int .i64 (macE m)) ∧ Below w.heap.size w w' := by
 have hcap := hR.le
 have hmx := hR.max
 unfold mV
 rw [hr]
 clear hr
 go_enter Tryz.func55, Tryz.ntmps55
 go_wp2_with fail
 have hS := (SL.nil w).box (.cells #[.bool true, .int .i64 m.gears, .int .i64 m.turn, .slice ad m.sw.length cap] 45)
 have q1 := (hS.blk 0 rfl).1
 refine wp_region_qt 34 kR kR ?_
 simp only [List.take_succ_cons, List.take_zero, List.drop_succ_cons, List.drop_zero]
 repeat (first | ((with_reducible refine wpB_load F_boolM wU wU q1 wU ?_); (try simp only [Act.put, pA, pB, pC])) | ((with_reducible refine wpB_load F_sliceM wU wU q1 wU ?_); (try simp only [Act.put, pA, pB, pC])) | ((with_reducible refine wpB_when wU wU wU ?_); (try simp only [Act.put, pA, pB, pC])) | ((with_reducible refine wpQ_skip wU ?_); (try simp only [Act.put, pA, pB, pC])) |  ((with_reducible refine wpB_load (by first | exact F_int | exact F_u64s) wU wU (by assumption) wU ?_); (try simp only [Act.put, pA, pB, pC])) | ((refine wpQ_oneG ?_ wU (fun w' => ?_) ?_); rotate_left; (go_simp; rfl); (try simp only [Act.put, pA, pB, pC])))
 refine wpQuiet_nil ?_
 intro w1 hb1
 have hS1 := hS.mono hb1
 go_wp2_with (go_at_call 66; refine (mfirst_any _ _ [_, _, _, _] _ (reps_newN cIntS [_, _, _, _] 4 rfl (by decide) _ _ (by simp) rfl)).mono ?_; rw [firstE_z, firstE_z, firstE_z, firstE_head (by decide)]; rintro e w' ⟨rfl, rfl⟩)
 all_goals go_ret
 all_goals exact ⟨by rw [HV.out]; rfl, bal hS1.b _⟩
end Go.Proofs.YtddkdgodgflmlaaGreatDoor
