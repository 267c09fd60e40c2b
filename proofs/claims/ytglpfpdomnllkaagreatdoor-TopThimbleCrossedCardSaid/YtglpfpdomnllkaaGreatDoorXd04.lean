/- Contracts and plain facts that the claim uses (RoA LtA RF RyA RPA). Conditions: as each one states. -/
import Derived.RangeFuncNested
import Derived.RangeFuncBound
import Derived.RangeFuncCalls
import Derived.RangeFuncLeaves
import Derived.RangeFuncFrom
import Derived.Shelf.Abstract
import Derived.Shelf.RegionOpen
import Derived.WalkKit
import Derived.OwnWalkIn
import Derived.TacticsInMore
import Derived.LoopNIn
import Derived.LoopIn
import Derived.Test.YtglpfpdomnllkaaGreatDoorProg
import Derived.WalkSpells
import Derived.Maps.AppendAt
import Derived.Deep.Quiet
import Derived.Maps.Own
import Derived.Maps.OwnSet
import Derived.Maps.Views
import Derived.WalkLawsBesides
import Derived.Laws.EntriesVeiled
import Derived.Deep.QuietTactic
import Derived.BigQuiet
import Derived.StillTail
import Derived.Laws.Tables
import Derived.Deep.RegionHeld3
import Derived.IntWalk
import Derived.Shelf.Strings.Trim
import Derived.Shelf.Strings.SlTrimAscii
import Derived.Shelf.Strings.Repeat
import Derived.Shelf.Strings.OnBuilder
import Derived.Shelf.Strconv.Itoa1
import Derived.Shelf.Strconv.Itoa3
import Derived.Shelf.LaysM
import Derived.Ground.Names2Prog
import Derived.Laws.CopyOwn
import Derived.Deep.RegionLaw
import Derived.BigRegion
import Derived.ChangeAlike
import Derived.Shelf.Bits.Mul64
import Derived.Lib.OthersKept
import Derived.Deep.AppendLies
import Derived.Deep.RegionHeldLaw
import Derived.Lib.ItoaLen
import Derived.Lib.ItoaMem
import Derived.Sort.LoopGhostIn
import Derived.Maps.RangeWalk
import Derived.Test.YtglpfpdomnllkaaGreatDoorXd01
import Derived.Test.YtglpfpdomnllkaaGreatDoorXd02
import Derived.Test.YtglpfpdomnllkaaGreatDoorXd03
set_option linter.all false

/- Contract: Rounds. Conditions: slices readable, numbers fit an int, sizes as stated; Itoa answers at the period. -/
namespace Go.Proofs.YtglpfpdomnllkaaGreatDoor
open Go.RowKit
set_option maxHeartbeats 1000000
set_option maxRecDepth 100000

theorem plc_bd (t : List Int) (x : Int) : ∀ k, 0 ≤ plc t k x ∧ plc t k x ≤ k
 | 0 => by simp [plc]
 | k + 1 => by
   have := plc_bd t x k
   rw [plc]; split <;> omega
theorem RoundL_ok {l : List Int} {ms : List (Int × Int)} (h : roundE l ms = 0) : (RoundL l ms).length = l.length ∧ l.length ≤ 64 ∧ ∀ y ∈ RoundL l ms, 0 ≤ y ∧ y ≤ 64 := by
 obtain ⟨hcs, _, _, _⟩ := roundE_zero h
 have hsz := (checkStand_zero hcs).2.1
 have e : RoundL l ms = permL l (replayL l ms).1 l.length := by rw [RoundL, if_pos h]
 rw [e]
 refine ⟨permL_len _ _ _, hsz, fun y hy => ?_⟩
 obtain ⟨i, hi, rfl⟩ := List.mem_map.1 hy
 have hi := List.mem_range.1 hi
 unfold goes
 split
 ·have := plc_bd (replayL l ms).1 (atD 0 l i) (replayL l ms).1.length
  rw [replayL_len] at this ⊢
  omega
 ·omega
def roundsE (l : List Int) (ms : List (Int × Int)) : Int := if roundE l ms = 0 then permE (RoundL l ms) else roundE l ms
def roundsB (l : List Int) (ms : List (Int × Int)) : ByteArray := if roundE l ms = 0 then perS (RoundL l ms) else ⟨#[]⟩

end Go.Proofs.YtglpfpdomnllkaaGreatDoor

/- Contract: Repeat. Conditions: the passes can be read, sizes as stated; Itoa answers at the period. -/
namespace Go.Proofs.YtglpfpdomnllkaaGreatDoor
open Go.RowKit
set_option maxHeartbeats 1000000
set_option maxRecDepth 100000

def lessL (l : List Int) (k : Nat) : List Int := (List.range k).map fun (i : Nat) => atD 0 l i - 1
theorem lessL_succ (l : List Int) (k : Nat) : lessL l (k + 1) = lessL l k ++ [atD 0 l k - 1] := by simp [lessL, List.range_succ]
theorem lessL_len (l : List Int) (k : Nat) : (lessL l k).length = k := by simp [lessL]
/-- where the strands are, from 0 on. -/
def endsP (n : Int) (l : List PassV) : List Int := lessL (rowL n.toNat (lettersAll l)).1 n.toNat
def rptE (n : Int) (l : List PassV) : Int := if passesE n l = 0 then permE (endsP n l) else passesE n l
def rptB (n : Int) (l : List PassV) : ByteArray := if passesE n l = 0 then perS (endsP n l) else ⟨#[]⟩

theorem letter_fits {n : Int} {p : PassV} (hn : n ≤ 12) (h : passE n p = 0) : ∀ x ∈ lettersL p, -1000 ≤ x ∧ x ≤ 1000 ∧ 1 ≤ absI x ∧ absI x < n.toNat := by
 obtain ⟨h1, h2, h3, h4, h5, h6, h7⟩ := passE_zero h
 intro x hx
 obtain ⟨k, hk, rfl⟩ := List.mem_map.1 hx
 have hk := List.mem_range.1 hk
 unfold distP at h6
 have hb : absI (-(letterAt p k)) = absI (letterAt p k) := by unfold absI; split <;> split <;> omega
 have key : ∀ y : Int, (p.t < p.f ∧ y = (k : Int) + 1 - p.f) ∨ (¬ p.t < p.f ∧ y = p.f + k) → -1000 ≤ y ∧ y ≤ 1000 ∧ 1 ≤ absI y ∧ absI y < n.toNat := by
  intro y hy
  unfold absI
  rcases hy with ⟨a, rfl⟩ | ⟨a, rfl⟩ <;> split <;> omega
 unfold letterAt
 split
 ·split
  ·have := key _ (.inl ⟨‹_›, rfl⟩)
   unfold absI at this ⊢
   split <;> split at this <;> omega
  ·have := key _ (.inr ⟨‹_›, rfl⟩)
   unfold absI at this ⊢
   split <;> split at this <;> omega
 ·split
  ·exact key _ (.inl ⟨‹_›, rfl⟩)
  ·exact key _ (.inr ⟨‹_›, rfl⟩)

theorem swapL_bd {st : List Int} {k m : Int} (hm : 0 ≤ m) (h : ∀ x ∈ st, 0 ≤ x ∧ x ≤ m) : ∀ x ∈ swapL st k, 0 ≤ x ∧ x ≤ m := by
 have hat : ∀ j : Int, 0 ≤ atD 0 st j ∧ atD 0 st j ≤ m := by
  intro j
  unfold atD
  by_cases hj : j.toNat < st.length
  ·simpa [hj] using h st[j.toNat] (List.getElem_mem hj)
  ·simp [List.getElem?_eq_none (Nat.le_of_not_lt hj), hm]
 intro x hx
 unfold swapL at hx
 rcases List.mem_or_eq_of_mem_set hx with hx | rfl
 ·rcases List.mem_or_eq_of_mem_set hx with hx | rfl
  ·exact h x hx
  ·exact hat _
 ·exact hat _
theorem rowGo_bd {m : Int} (hm : 0 ≤ m) : ∀ (ws st : List Int) (cr : List (Int × Int)), (∀ x ∈ st, 0 ≤ x ∧ x ≤ m) → (rowGo st cr ws).1.length = st.length ∧ ∀ x ∈ (rowGo st cr ws).1, 0 ≤ x ∧ x ≤ m
 | [], st, cr, h => ⟨rfl, h⟩
 | w :: ws, st, cr, h => by
   rw [rowGo]
   obtain ⟨h1, h2⟩ := rowGo_bd hm ws (swapL st (absI w)) (cr ++ [crossOf st w]) (swapL_bd hm h)
   exact ⟨h1.trans (swapL_len _ _), h2⟩
theorem rowL_bd (n : Nat) (ws : List Int) : (rowL n ws).1.length = n ∧ ∀ x ∈ (rowL n ws).1, 0 ≤ x ∧ x ≤ n := by
 obtain ⟨h1, h2⟩ := rowGo_bd (m := n) (by omega) ws (startL n) [] (fun x hx => by
  obtain ⟨i, hi, rfl⟩ := List.mem_map.1 hx
  have := List.mem_range.1 hi
  omega)
 exact ⟨h1.trans (by simp [startL]), h2⟩

theorem Repeat_passes (n : Int) (a : Option Addr) (cap : Nat) (l : List PassV) (w : World) (hS : PassesR w a cap l) (hl : l.length ≤ 1048576) (hw : ∀ p ∈ l, p.way.size ≤ 1048576)
  (hIt : passesE n l = 0 → permE (endsP n l) = 0 → ItoaOk w (periodN (endsP n l))) :
  Calls Tryz.prog 12 #[.int .i64 n, .slice a l.length cap] w fun r w' => r = .returned (.tuple #[.string (rptB n l), .int .i64 (rptE n l)]) ∧ Below w.heap.size w w' := by
 have hcap := hS.le
 have hm := hS.max
 have hc := CheckPasses_any n a cap l w hS hl hw
 by_cases h : passesE n l = 0
 ·rw [h] at hc
  obtain ⟨hn1, hn2, hl2, hall⟩ := passesE_zero h
  obtain ⟨m, rfl⟩ := Int.eq_ofNat_of_zero_le (show 0 ≤ n by omega)
  have hfit : fitsW m (lettersAll l) := by
   intro x hx
   obtain ⟨p, hp, hx⟩ := List.mem_flatMap.1 hx
   simpa using letter_fits hn2 (hall p hp) x hx
  have eB : rptB m l = perS (endsP m l) := by unfold rptB; rw [if_pos h]
  have eE : rptE m l = permE (endsP m l) := by unfold rptE; rw [if_pos h]
  have hen : endsP m l = lessL (rowL m (lettersAll l)).1 m := by simp [endsP]
  have hit := hIt h
  rw [eB, eE]
  rw [hen] at hit ⊢
  have hbd := rowL_bd m (lettersAll l)
  obtain ⟨st, hst⟩ : ∃ st, st = (rowL m (lettersAll l)).1 := ⟨_, rfl⟩
  rw [← hst] at hbd hit ⊢
  have HST := hid hst; clear hst
  have HC := hid hc; have HA := hid hall; have HF := hid hfit; have HIT := hid hit
  have H1 := hid hbd.1
  have H2 := hid hbd.2
  clear hbd
  clear hc hall h hw eB eE hen hfit hit hIt
  go_enter Tryz.func12, Tryz.ntmps12
  go_wp2_with fail
  refine HC.out.mono ?_
  rintro e w1 ⟨rfl, hb1⟩
  go_wp2_with fail
  go_loopw [7, 9, 21] (fun v _ i wr => ∃ k : Nat, k ≤ l.length ∧ i = .int .i64 k ∧ (lettersAll (l.take k)).length ≤ 11 * k ∧ SL w.heap.size w wr [pOwn cInt 1 3 v (lettersAll (l.take k))]) (fun _ _ i _ => l.length - (intOf i).toNat)
  case atStart => exact ⟨0, by omega, rfl, by simp [lettersAll], (SL.of_below hb1).nilS cIntS⟩
  case round =>
   obtain ⟨k, hk, rfl, hlen, hSL⟩ := hrel
   have hSr := hS.below hSL.b
   by_cases hlt : k < l.length
   ·have hs := lettersAll_step l k hlt
    have HS := hid hs; clear hs
    obtain ⟨z1, z2, z3, z4⟩ := passE_small hn2 (HA.out (atD pass0 l k) (by simp [atD, hlt]))
    obtain ⟨y1, y2, y3, y4, _, _, _⟩ := passE_zero (HA.out (atD pass0 l k) (by simp [atD, hlt]))
    have hlt3 := fun w => letters_any (atD pass0 l k) w y1 z1 y3 z2 (by omega) z4
    have hle : (lettersL (atD pass0 l k)).length ≤ 11 := by rw [lettersL_len]; exact z3
    have HLT := hid hlt3; clear hlt3 z4
    go_wp2_with (with_reducible refine wpList_idxS _ pass0 E_passes F_pass cPass1 wU wU (hSr) oD oD (fun _ => wU) (fun _ => ?_))
    refine (HLT.out _).mono ?_
    rintro e w2 ⟨v2, rfl, ho2, hb2⟩
    have hS2 := (hSL.al (.cells #[.int .i64 (atD pass0 l k).f, .int .i64 (atD pass0 l k).t, .string (atD pass0 l k).way] 39)).call (SL.ofOwn ho2 hb2)
    obtain ⟨a2, cap2, rfl, hr2⟩ := hS2.slice 0 rfl
    go_wp2_with ((with_reducible refine wpList_appL 1 E_ints wU wU (hS2) wU (hr2) (rfl) cIntO (by first | omega | (simp; omega)) (by first | omega | (simp; omega)) ?_); intro v3 w3 hS3)
    refine ⟨⟨k + 1, by omega, by go_num, by rw [HS.out, List.length_append]; omega, by rw [HS.out]; exact hS3.tail⟩, by simp [intOf]; omega⟩
   ·have : k = l.length := by omega
    subst this
    rw [List.take_length] at hSL hlen
    obtain ⟨ao, capo, rfl, hro⟩ := hSL.slice 0 rfl
    go_wp2_with fail
    refine (rowOf_any m ao capo (lettersAll l) wr hro (by omega) (by omega) (by omega) HF.out).mono ?_
    rintro e w4 ⟨rfl, hrow, hb4⟩
    obtain ⟨g, capr, vc, hheap, hOst, _, _, _⟩ := hrow
    rw [← HST.out] at hheap hOst
    have hSw := hSL.mono hb4
    obtain ⟨ag, cg, e1, hRst, _⟩ := hOst.reps
    cases e1
    have c0 : w4.cell? ⟨wr.heap.size, 0, none⟩ = some (.slice (some ⟨g, 0, none⟩) st.length capr) := by rw [cell_of_row _ _ _ _ _ _ hheap]; rfl
    clear hOst hheap
    have hstl : st.length ≤ 12 := by have := H1.out; omega
    go_wp2_with fail
    go_loopw [10, 12, 37] (fun v _ i wq => ∃ k : Nat, k ≤ st.length ∧ i = .int .i64 k ∧ SL w4.heap.size w4 wq [pOwn cInt 1 3 v (lessL st k)]) (fun _ _ i _ => st.length - (intOf i).toNat)
    case atStart => exact ⟨0, by omega, rfl, (SL.nil w4).nilS cIntS⟩
    case round =>
     obtain ⟨k, hk, rfl, hSq⟩ := hrel
     have hRq := hRst.below hSq.b
     have hll := lessL_len st k
     have hll2 : (lessL st k).length ≤ 100 := by rw [hll]; have := H1.out; omega
     have HLL := hid hll; clear hll
     by_cases hlt : k < st.length
     ·have hbd := H2.out (atD 0 st k) (by simp [atD, hlt])
      have hsu := lessL_succ st k
      have HSU := hid hsu; clear hsu
      go_wp2_with (first | (with_reducible refine wpList_idx _ 0 E_ints F_int cInt1 wU wU (hRq) oD oD (fun _ => wU) (fun _ => ?_)) | ((with_reducible refine wpList_pushL (y := (atD 0 st k - 1)) 0 E_ints wU wU (hSq) wU cIntO ⟨rfl, rfl⟩ (by first | with_unfolding_all rfl | simp) wU (by first | omega | (simp; omega)) (by first | omega | (simp; omega)) ?_); intro v3 w3 hS3))
      refine ⟨⟨k + 1, by omega, by go_num, by rw [HSU.out]; exact hS3⟩, by simp [intOf]; omega⟩
     ·have hkq : k = st.length := by omega
      subst hkq
      obtain ⟨ae, cape, rfl, hre⟩ := hSq.slice 0 rfl
      have hin : ∀ x ∈ lessL st st.length, InI x := by
       intro x hx
       obtain ⟨i, hi, rfl⟩ := List.mem_map.1 hx
       have hi := List.mem_range.1 hi
       have := H2.out (atD 0 st i) (by simp [atD, hi])
       unfold InI; omega
      have hbw := hSw.b
      have hit : permE (lessL st st.length) = 0 → ItoaOk wr (periodN (lessL st st.length)) := fun he => ((HIT.out (by rw [← H1.out]; exact he)).below hbw).below hSq.b |> fun h => by rw [H1.out]; exact h
      have HP := hid (Period_any ae cape (lessL st st.length) wr hre hin (by rw [lessL_len]; omega) hit)
      clear hit hin
      go_wp2_with fail
      refine HP.out.mono ?_
      rintro e w5 ⟨rfl, hb5⟩
      go_wp2_with fail
      go_ret2
      refine ⟨?_, bnext (bnext hbw hSq.b) hb5⟩
      rw [H1.out]
      rfl
 ·have e1 : rptE n l = passesE n l := by unfold rptE; rw [if_neg h]
  have e2 : rptB n l = ⟨#[]⟩ := by unfold rptB; rw [if_neg h]
  rw [e1, e2]
  obtain ⟨q, hq⟩ : ∃ q, q = passesE n l := ⟨_, rfl⟩
  rw [← hq] at hc h ⊢
  have hne : (q != 0) = true := by simpa using h
  have HC := hid hc
  clear hc hq e1 e2 hw hIt
  go_enter Tryz.func12, Tryz.ntmps12
  go_wp2_with fail
  refine HC.out.mono ?_
  rintro e w1 ⟨rfl, hb1⟩
  go_wp2_with fail
  go_ret2
  exact ⟨rfl, hb1⟩
end Go.Proofs.YtglpfpdomnllkaaGreatDoor

namespace Go.Proofs.YtglpfpdomnllkaaGreatDoor
open Go.RowKit Go.Maps
set_option maxRecDepth 100000

section
variable {P : Program} {ops : Array Oper} {Q : Exit → Act → World → Prop} {md : Region.Mode} {C : World → Prop}
end
theorem MapI.le {w : World} {b n n' : Nat} {f : Int → Int} (h : MapI w b n f) (hn : n ≤ n') : MapI w b n' f := by
 obtain ⟨D, h1, h2⟩ := h; exact ⟨D, h1.mono hn, h2⟩
end Go.Proofs.YtglpfpdomnllkaaGreatDoor

namespace Go.Proofs.YtglpfpdomnllkaaGreatDoor
open Go.RowKit Go.Maps
set_option maxHeartbeats 1000000
set_option maxRecDepth 100000

end Go.Proofs.YtglpfpdomnllkaaGreatDoor

namespace Go.Proofs.YtglpfpdomnllkaaGreatDoor
open Go.RowKit
set_option maxHeartbeats 1000000
set_option maxRecDepth 100000

section
variable {P : Program} {ops : Array Oper} {rest : List Oper} {a : Act} {Qa : Act → Prop} {α : Type} {c : α → Value} {sz bytes : Nat} {t e : TypeId} {z : Value} {ad : Option Addr} {cap : Nat} {l : List α} {k : Int} {w : World}
 {d1 d2 : Tmp} {ty1 ty2 : TypeId} {p1 p2 : String} {s x : Operand} {af1 af2 : Array Edge}
end
theorem take_step {α : Type} (d : α) (l : List α) (k : Nat) (h : k < l.length) : l.take (k + 1) = l.take k ++ [atD d l k] := by
 rw [List.take_succ_eq_append_getElem h]; simp [atD, h]
theorem E_rpasses : ETy Tryz.prog 37 40 (.agg #[.int .i64 0, .int .i64 0, .string ⟨#[]⟩]) 3 32 := ⟨Tryz.underlying37, by kernel_rfl, rfl, by decide⟩
theorem F_rpass : Aggr Tryz.prog 40 := ⟨_, Tryz.underlying40, rfl⟩

end Go.Proofs.YtglpfpdomnllkaaGreatDoor

namespace Go.Proofs.YtglpfpdomnllkaaGreatDoor
open Go.RowKit
set_option maxHeartbeats 1000000
set_option maxRecDepth 100000

end Go.Proofs.YtglpfpdomnllkaaGreatDoor

namespace Go.Proofs.YtglpfpdomnllkaaGreatDoor
open Go.RowKit
set_option maxHeartbeats 1000000
set_option maxRecDepth 100000

end Go.Proofs.YtglpfpdomnllkaaGreatDoor

namespace Go.Proofs.YtglpfpdomnllkaaGreatDoor
open Go.RowKit
set_option maxHeartbeats 1000000
set_option maxRecDepth 100000

section
variable {P : Program} {ops : Array Oper} {Qa : Act → Prop} {w : World} {rest : List Oper} {a : Act} {ty : TypeId} {p : String} {af : Array Edge} {g : Option (Nat × Bool)} {d : Tmp}
end

def shortM (n : Nat) : Bool := decide (n ≤ 40) || (decide (1000 < n) && decide (n ≤ 1002))
end Go.Proofs.YtglpfpdomnllkaaGreatDoor

/- Contracts of the reference: ShortPasses, CheckPasses. Conditions: slices readable, sizes as stated. -/
namespace Go.Proofs.YtglpfpdomnllkaaGreatDoor
open Go.RowKit
set_option maxHeartbeats 2000000
set_option maxRecDepth 100000

theorem trimS_all {l cs : List UInt8} (h : ∀ x ∈ l, cs.contains x = true) : Lib.trimS l cs = [] := by
 have e : Lib.trimRightS l cs = [] := by
  have := Lib.trimRightS_take l cs 0 (Nat.zero_le _) (fun j b _ hb => h b (List.mem_of_getElem? hb)) (fun b hb _ => by omega)
  simpa using this
 unfold Lib.trimS
 rw [e]
 rfl
theorem trimOU_all {s : ByteArray} (h : ∀ k, k < s.size → byteAt s k = 111 ∨ byteAt s k = 117) : trimOU s = ⟨#[]⟩ := by
 unfold trimOU
 rw [trimS_all]
 intro x hx
 obtain ⟨i, hi, rfl⟩ := List.getElem_of_mem hx
 have hi2 : i < s.size := by simpa using hi
 have := h i hi2
 rw [byteAt_in hi2, ByteArray.getElem_eq_getElem_data] at this
 simp
 rcases this with h | h
 ·left; exact UInt8.toNat_inj.1 (show _ = 111 by omega)
 ·right; exact UInt8.toNat_inj.1 (show _ = 117 by omega)

def shortPB (l : List PassV) : Bool := shortM l.length && l.all (fun p => decide (p.way.size ≤ 20))
theorem rShortPasses_any (a : Option Addr) (cap : Nat) (l : List PassV) (w : World) (hS : PassesR w a cap l) :
  Calls Tryz.prog 10 #[.slice a l.length cap] w fun r w' => r = .returned (.bool (shortPB l)) ∧ Below w.heap.size w w' := by
 have hcap := hS.le
 have hm := hS.max
 cases hM : shortM l.length
 ·have e : shortPB l = false := by unfold shortPB; rw [hM]; rfl
  rw [e]
  have h1 : 40 < l.length ∧ (l.length ≤ 1000 ∨ 1002 < l.length) := by
   simp only [shortM, Bool.or_eq_false_iff, Bool.and_eq_false_iff, decide_eq_false_iff_not] at hM; omega
  clear hM e
  obtain ⟨h1, h2⟩ := h1
  by_cases h3 : l.length ≤ 1000
  ·go_enter Tryz.func10, Tryz.ntmps10
   go_wp2
   go_ret
   exact ⟨rfl, Below.refl _ _⟩
  ·have h4 : 1002 < l.length := by omega
   go_enter Tryz.func10, Tryz.ntmps10
   go_wp2
   go_ret
   exact ⟨rfl, Below.refl _ _⟩
 ·have h1 : l.length ≤ 40 ∨ (1000 < l.length ∧ l.length ≤ 1002) := by
   simp only [shortM, Bool.or_eq_true, Bool.and_eq_true, decide_eq_true_eq] at hM; omega
  have eB : shortPB l = l.all (fun p => decide (p.way.size ≤ 20)) := by unfold shortPB; rw [hM]; rfl
  obtain ⟨B, hB⟩ : ∃ B, B = shortPB l := ⟨_, rfl⟩
  rw [← hB] at eB ⊢
  have HB := hid eB
  clear eB hB hM
  rcases h1 with h1 | ⟨h1, h2⟩
  all_goals
   go_enter Tryz.func10, Tryz.ntmps10
   go_wp2
   go_loopw [3] (fun i wr => ∃ k : Nat, k ≤ l.length ∧ i = .int .i64 k ∧ (l.take k).all (fun p => decide (p.way.size ≤ 20)) = true ∧ Below w.heap.size w wr) (fun i _ => l.length - (intOf i).toNat)
   case atStart => exact ⟨0, by omega, rfl, rfl, Below.refl _ _⟩
   case round =>
    obtain ⟨k, hk, rfl, hno, hbr⟩ := hrel
    have hR := hS.below hbr
    by_cases hlt : k < l.length
    ·have ht := take_step pass0 l k hlt
     have HT := hid ht; have HNO := hid hno; clear ht hno
     obtain ⟨b', o', rfl, hcs⟩ := hR.cells (by decide) pass0 k hlt
     have k2 := hcs 2 (.string (atD pass0 l k).way) rfl
     clear hcs
     by_cases hw : (atD pass0 l k).way.size ≤ 20
     ·have hno2 : (l.take (k + 1)).all (fun p => decide (p.way.size ≤ 20)) = true := by rw [HT.out, List.all_append, HNO.out]; simp [hw]
      have HN2 := hid hno2; clear hno2
      go_wp2_with fail
      go_roundw
      case rel => exact ⟨k + 1, by omega, by go_num, HN2.out, hbr⟩
      case measure => simp [intOf]; omega
     ·have hf : B = false := by
       rw [HB.out, List.all_eq_false]
       exact ⟨atD pass0 l k, by simp [atD, hlt], by simpa using hw⟩
      have HF := hid hf; clear hf
      go_wp2_with fail
      go_ret
      exact ⟨by rw [HF.out]; rfl, hbr⟩
    ·have : k = l.length := by omega
     subst this
     rw [List.take_length] at hno
     have hf : B = true := by rw [HB.out, hno]
     have HF := hid hf; clear hf hno
     go_wp2_with fail
     go_ret
     exact ⟨by rw [HF.out]; rfl, hbr⟩
end Go.Proofs.YtglpfpdomnllkaaGreatDoor

/- Contract of the reference: CheckPasses. Conditions: slices readable, sizes as stated. -/
namespace Go.Proofs.YtglpfpdomnllkaaGreatDoor
open Go.RowKit
set_option maxHeartbeats 2000000
set_option maxRecDepth 100000

theorem rCheckPasses_any (n : Int) (a : Option Addr) (cap : Nat) (l : List PassV) (w : World) (hS : PassesR w a cap l) (hl : l.length ≤ 1048576) (hw : ∀ p ∈ l, p.way.size ≤ 1048576) :
  Calls Tryz.prog 11 #[.int .i64 n, .slice a l.length cap] w fun r w' => r = .returned (.int .i64 (passesE n l)) ∧ Below w.heap.size w w' := by
 have hcap := hS.le
 have hm := hS.max
 cases hb0 : btw n 2 12
 ·have e : passesE n l = 3 := by unfold passesE; rw [if_pos (by simp [btw] at hb0; omega)]
  rw [e]
  have H0 := hid hb0; clear hb0 e hw
  go_enter Tryz.func11, Tryz.ntmps11
  go_wp2_with fail
  refine (rbetween_any _ _ _ _).mono ?_; rw [H0.out]; rintro e w' ⟨rfl, rfl⟩
  go_wp2_with fail
  go_ret
  exact ⟨rfl, Below.refl _ _⟩
 ·have hn : 2 ≤ n ∧ n ≤ 12 := btw_true.1 hb0
  obtain ⟨hn1, hn2⟩ := hn
  have H0 := hid hb0; clear hb0
  by_cases hl2 : 1000 < l.length
  ·have e : passesE n l = 5 := by unfold passesE; rw [if_neg (by omega), if_pos hl2]
   rw [e]
   clear e hw
   go_enter Tryz.func11, Tryz.ntmps11
   go_wp2_with fail
   refine (rbetween_any _ _ _ _).mono ?_; rw [H0.out]; rintro e w' ⟨rfl, rfl⟩
   go_wp2_with fail
   go_ret
   exact ⟨rfl, Below.refl _ _⟩
  ·have e : passesE n l = passesGo n l := by unfold passesE; rw [if_neg (by omega), if_neg hl2]
   obtain ⟨E, hE⟩ : ∃ E, E = passesE n l := ⟨_, rfl⟩
   rw [← hE] at e ⊢
   have HE := hid e; have HW := hid hw; clear e hE hw
   go_enter Tryz.func11, Tryz.ntmps11
   go_wp2_with fail
   refine (rbetween_any _ _ _ _).mono ?_; rw [H0.out]; rintro e w' ⟨rfl, rfl⟩
   go_wp2_with fail
   go_loopw [5, 6, 7] (fun i _ _ wr => ∃ k : Nat, k ≤ l.length ∧ i = .int .i64 k ∧ passesGo n (l.drop k) = E ∧ Below w.heap.size w wr) (fun i _ _ _ => l.length - (intOf i).toNat)
   case atStart => exact ⟨0, by omega, rfl, by rw [HE.out]; rfl, Below.refl _ _⟩
   case round =>
    obtain ⟨k, hk, rfl, hgo, hbr⟩ := hrel
    have hSr := hS.below hbr
    by_cases hlt : k < l.length
    ·have hstep := passesGo_step n l k hlt
     rw [hgo] at hstep
     have hsz : (atD pass0 l k).way.size ≤ 1048576 := HW.out _ (by simp [atD, hlt])
     obtain ⟨f, hf⟩ : ∃ f, f = (atD pass0 l k).f := ⟨_, rfl⟩
     obtain ⟨t, ht⟩ : ∃ t, t = (atD pass0 l k).t := ⟨_, rfl⟩
     obtain ⟨s, hs⟩ : ∃ s, s = (atD pass0 l k).way := ⟨_, rfl⟩
     have hp : atD pass0 l k = ⟨f, t, s⟩ := by rw [hf, ht, hs]
     rw [hp] at hstep
     rw [← hs] at hsz
     have HST := hid hstep; have HF := hid hf; have HT := hid ht; have HY := hid hs; have HGO := hid hgo
     clear hstep hf ht hs hp hgo
     have b1 : Below w.heap.size w (wr.alloc (.cells #[.int .i64 f, .int .i64 t, .string s] 40)) := bal hbr _
     go_wp2_with (with_reducible refine wpList_idxS _ pass0 E_rpasses F_rpass cPass1 wU wU (hSr) oD oD (fun _ => wU) (fun _ => ?_))
     rw [← HF.out, ← HT.out, ← HY.out]
     cases h1 : btw f 1 n
     ·have e : E = 3 := by
       have e1 : passE n ⟨f, t, s⟩ = 3 := by unfold passE; rw [if_pos (by simp [btw] at h1 ⊢; omega)]
       rw [HST.out, e1]; rfl
      have HE1 := hid e; have H1 := hid h1; clear e h1
      refine (rbetween_any _ _ _ _).mono ?_; rw [H1.out]; rintro e w' ⟨rfl, rfl⟩
      go_wp2_with fail
      go_ret
      exact ⟨by rw [HE1.out]; rfl, b1⟩
     ·cases h2 : btw t 1 n
      ·have e : E = 3 := by
        have e1 : passE n ⟨f, t, s⟩ = 3 := by unfold passE; rw [if_pos (by simp [btw] at h2 ⊢; omega)]
        rw [HST.out, e1]; rfl
       have HE1 := hid e; have H1 := hid h1; have H2 := hid h2; clear e h1 h2
       refine (rbetween_any _ _ _ _).mono ?_; rw [H1.out]; rintro e w' ⟨rfl, rfl⟩
       go_wp2_with fail
       refine (rbetween_any _ _ _ _).mono ?_; rw [H2.out]; rintro e w' ⟨rfl, rfl⟩
       go_wp2_with fail
       go_ret
       exact ⟨by rw [HE1.out]; rfl, b1⟩
      ·have g1 := btw_true.1 h1
       have g2 := btw_true.1 h2
       obtain ⟨f1, f2⟩ := g1
       obtain ⟨t1, t2⟩ := g2
       have H1 := hid h1; have H2 := hid h2; clear h1 h2
       by_cases h3 : t = f
       ·have e : E = 9 := by
         have e1 : passE n ⟨f, t, s⟩ = 9 := by unfold passE; rw [if_neg (by simp; omega), if_pos h3]
         rw [HST.out, e1]; rfl
        have HE1 := hid e; clear e
        have h3' : (f == t) = true := by simpa using h3.symm
        clear h3
        refine (rbetween_any _ _ _ _).mono ?_; rw [H1.out]; rintro e w' ⟨rfl, rfl⟩
        go_wp2_with fail
        refine (rbetween_any _ _ _ _).mono ?_; rw [H2.out]; rintro e w' ⟨rfl, rfl⟩
        go_wp2_with fail
        go_ret
        exact ⟨by rw [HE1.out]; rfl, b1⟩
       ·have hd : distP ⟨f, t, s⟩ = max (f - t) (t - f) := by unfold distP; simp only; split <;> omega
        have h3' : (f == t) = false := by simp; omega
        by_cases h4 : (s.size : Int) = max (f - t) (t - f)
        ·have h4' : ((s.size : Int) != max (f - t) (t - f)) = false := by simpa using h4
         have hdz : (s.size : Int) = distP ⟨f, t, s⟩ := by rw [hd]; exact h4
         have HDZ := hid hdz; have H3 := hid h3; clear h4 hd hdz h3
         refine (rbetween_any _ _ _ _).mono ?_; rw [H1.out]; rintro e w' ⟨rfl, rfl⟩
         go_wp2_with fail
         refine (rbetween_any _ _ _ _).mono ?_; rw [H2.out]; rintro e w' ⟨rfl, rfl⟩
         go_wp2_with fail
         have c2 : (wr.alloc (.cells #[.int .i64 f, .int .i64 t, .string s] 40)).cell? ⟨wr.heap.size, 2, none⟩ = some (.string s) := by simp [go_sem]
         obtain ⟨W, hW⟩ : ∃ W, W = wr.alloc (.cells #[.int .i64 f, .int .i64 t, .string s] 40) := ⟨_, rfl⟩
         rw [← hW] at c2 b1 ⊢
         have hWl : wr.heap.size < W.heap.size := by rw [hW]; simp
         clear hW
         obtain ⟨H, hH⟩ : ∃ H, H = wr.heap.size := ⟨_, rfl⟩
         rw [← hH] at c2 hWl ⊢
         clear hH
         go_loopw [7] (fun j wq => ∃ m : Nat, m ≤ s.size ∧ j = .int .i64 m ∧ (∀ q, q < m → byteAt s q = 111 ∨ byteAt s q = 117) ∧ Below W.heap.size W wq) (fun j _ => s.size - (intOf j).toNat)
         case atStart => exact ⟨0, by omega, rfl, fun q hq => by omega, Below.refl _ _⟩
         case round =>
          obtain ⟨m, hm2, rfl, hall, hbq⟩ := hrel
          have k2 : wr.cell? ⟨H, 2, none⟩ = some (.string s) := (hbq.cell (p := ⟨H, 2, none⟩) hWl).trans c2
          have HA := hid hall; clear hall
          by_cases hml : m < s.size
          ·have hb := byteAt_in hml
           have next : (byteAt s m = 111 ∨ byteAt s m = 117) → ∀ q, q < m + 1 → byteAt s q = 111 ∨ byteAt s q = 117 := fun h q hq => by
            by_cases e : q = m
            ·subst e; exact h
            ·exact HA.out q (by omega)
           by_cases c1 : ((s[m]'hml).toNat : Int) = 111
           ·have hn := next (.inl (hb.trans c1))
            have HN := hid hn; clear hn next hb
            go_wp2_with fail
            all_goals exact ⟨⟨m + 1, by omega, by go_num, HN.out, hbq⟩, by simp [intOf]; omega⟩
           ·by_cases c3 : ((s[m]'hml).toNat : Int) = 117
            ·have hn := next (.inr (hb.trans c3))
             have HN := hid hn; clear hn next hb
             go_wp2_with fail
             all_goals exact ⟨⟨m + 1, by omega, by go_num, HN.out, hbq⟩, by simp [intOf]; omega⟩
            ·have e1 : passE n ⟨f, t, s⟩ = 1 := by
              unfold passE
              rw [if_neg (by simp; omega), if_neg H3.out, if_neg (fun h => h HDZ.out), if_pos]
              intro h
              have := trimOU_nil h m hml
              rw [hb] at this
              omega
             have e : E = 1 := by rw [HST.out, e1]; rfl
             have HE1 := hid e; clear e e1 hb next
             have d1 : (((s[m]'hml).toNat : Int) != 111) = true := by simpa using c1
             have d2 : (((s[m]'hml).toNat : Int) != 117) = true := by simpa using c3
             go_wp2_with fail
             go_ret
             exact ⟨by rw [HE1.out]; rfl, bnext b1 hbq⟩
          ·have : m = s.size := by omega
           subst this
           have e0 : passE n ⟨f, t, s⟩ = 0 := by
            unfold passE
            rw [if_neg (by simp; omega), if_neg H3.out, if_neg (fun h => h HDZ.out), if_neg (fun h => h (trimOU_all HA.out))]
           have hst := HST.out
           rw [e0, if_neg (fun h => h rfl)] at hst
           have HS2 := hid hst; clear hst e0
           go_wp2_with fail
           go_roundw
           case rel => exact ⟨k + 1, by omega, by go_num, HS2.out.symm, bnext b1 hbq⟩
           case measure => simp [intOf]; omega
        ·have e : E = 2 := by
          have e1 : passE n ⟨f, t, s⟩ = 2 := by unfold passE; rw [if_neg (by simp; omega), if_neg h3, if_pos (by rw [hd]; exact h4)]
          rw [HST.out, e1]; rfl
         have HE1 := hid e; clear e hd h3
         have h4' : ((s.size : Int) != max (f - t) (t - f)) = true := by simpa using h4
         refine (rbetween_any _ _ _ _).mono ?_; rw [H1.out]; rintro e w' ⟨rfl, rfl⟩
         go_wp2_with fail
         refine (rbetween_any _ _ _ _).mono ?_; rw [H2.out]; rintro e w' ⟨rfl, rfl⟩
         go_wp2_with fail
         go_ret
         exact ⟨by rw [HE1.out]; rfl, b1⟩
    ·have : k = l.length := by omega
     subst this
     have e : E = 0 := by rw [← hgo]; simp [passesGo]
     have HE1 := hid e; clear e hgo
     go_wp2_with fail
     go_ret
     exact ⟨by rw [HE1.out]; rfl, hbr⟩
end Go.Proofs.YtglpfpdomnllkaaGreatDoor

/- Contracts of the reference: Letters, Word. Conditions: passes that CheckPasses accepts. -/
namespace Go.Proofs.YtglpfpdomnllkaaGreatDoor
open Go.RowKit
set_option maxHeartbeats 2000000
set_option maxRecDepth 100000

end Go.Proofs.YtglpfpdomnllkaaGreatDoor
