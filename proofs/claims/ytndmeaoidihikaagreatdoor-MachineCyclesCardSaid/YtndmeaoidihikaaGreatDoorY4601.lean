/- Contracts and plain facts that the claim uses (MemA TyA SlA PaA CiA EnP RtP RtM NrP NrM NrT CiB Lib3 ItA OpC TpF). Conditions: as each one states. -/
import Derived.WalkKit
import Derived.WalkSpells
import Derived.Maps.AppendAt
import Derived.Deep.Quiet
import Derived.Test.YtndmeaoidihikaaGreatDoorProg
import Derived.RangeFuncNested
import Derived.RangeFuncBound
import Derived.RangeFuncCalls
import Derived.RangeFuncLeaves
import Derived.RangeFuncFrom
import Derived.Shelf.Abstract
import Derived.Shelf.RegionOpen
import Derived.OwnWalkIn
import Derived.TacticsInMore
import Derived.LoopNIn
import Derived.LoopIn
import Derived.Maps.Own
import Derived.Maps.OwnSet
import Derived.Maps.Views
import Derived.WalkLawsBesides
import Derived.Laws.EntriesVeiled
import Derived.Deep.QuietTactic
import Derived.BigQuiet
import Derived.Lib.OthersKept
import Derived.Shelf.Strings.Trim
import Derived.Shelf.Strings.SlTrimAscii
import Derived.Shelf.Strings.Repeat
import Derived.Shelf.Strings.OnBuilder
import Derived.Shelf.Strconv.Itoa1
import Derived.Shelf.Strconv.Itoa3
import Derived.Shelf.LaysM
import Derived.Ground.Names2Prog
import Derived.Deep.RegionHeld3
import Derived.Deep.AppendLies
import Derived.Deep.RegionHeldLaw
import Derived.Deep.RegionLaw
import Derived.StillTail
import Derived.Laws.Tables
import Derived.IntWalk
import Derived.Laws.CopyOwn
import Derived.BigRegion
import Derived.ChangeAlike
import Derived.Shelf.Bits.Mul64
import Derived.Lib.ItoaLen
import Derived.Lib.ItoaMem
import Derived.Sort.LoopGhostIn
import Derived.Maps.RangeWalk
import Derived.Maps.Ext
import Derived.Deep.LoopGhost
import Derived.Shelf.Strconv.ErrVarAll
import Derived.Shelf.Strconv.AtoiAll
import Derived.Shelf.Strings.Cut
import Derived.Shelf.Strings.Split
import Derived.Shelf.Strings.SplitShaped
import Derived.Lib.AppendIntMem
import Derived.Lib.SmallJoins
import Derived.LaidSub
import Derived.Lib.LaidTab
import Derived.ReadAgain
import Derived.ChangeSlices
import Derived.OpenShut
import Derived.ProofKit
import Derived.Deep.DeepHandedRow
import Derived.Deep.SlicePairs
import Derived.Lib.Split
import Derived.Lib.AtoiAll
import Derived.Lib.AtoiErrMem
import Derived.Stop.LaidErr
import Derived.Test.YtndmeaoidihikaaGreatDoorXz01
import Derived.Test.YtndmeaoidihikaaGreatDoorXz02
import Derived.Test.YtndmeaoidihikaaGreatDoorXz03
import Derived.Test.YtndmeaoidihikaaGreatDoorXz04
import Derived.Test.YtndmeaoidihikaaGreatDoorXz05
import Derived.Test.YtndmeaoidihikaaGreatDoorXz06
import Derived.Test.YtndmeaoidihikaaGreatDoorXz07
import Derived.Test.YtndmeaoidihikaaGreatDoorXz08
import Derived.Test.YtndmeaoidihikaaGreatDoorXz09
import Derived.Test.YtndmeaoidihikaaGreatDoorXz10
import Derived.Test.YtndmeaoidihikaaGreatDoorXz11
import Derived.Test.YtndmeaoidihikaaGreatDoorXz12
set_option linter.all false

namespace Go.Proofs.YtndmeaoidihikaaGreatDoor
open Go.RowKit
section
variable {α : Type} {c : α → Value} {sz : Nat} {w w' : World} {a : Option Addr} {cap : Nat} {l : List α}
end

section
variable {P : Program} {ops : Array Oper} {rest : List Oper} {a : Act} {Q : Exit → Act → World → Prop} {α : Type} {c : α → Value} {sz bytes : Nat} {t e : TypeId} {z : Value} {ad : Option Addr} {cap : Nat} {l : List α} {k : Int}
 {d1 d2 : Tmp} {ty1 ty2 : TypeId} {p1 p2 : String} {s x : Operand} {af1 af2 : Array Edge}

end
end Go.Proofs.YtndmeaoidihikaaGreatDoor

namespace Go.Proofs.YtndmeaoidihikaaGreatDoor
open Go.RowKit

section
variable {P : Program} {α : Type} {c : α → Value} {sz bytes B : Nat} {t e : TypeId} {z v : Value} {w w' : World} {l : List α}

theorem wpList_store {ops : Array Oper} {rest : List Oper} {a : Act} {Q : Exit → Act → World → Prop} {d1 : Tmp} {ty1 ty2 : TypeId} {p1 p2 : String} {s x y : Operand} {af1 af2 : Array Edge} {ad : Option Addr} {cap : Nat} {k : Int} (u : α)
   (E : ETy P t e z 1 bytes) (hc1 : ∀ x, (c x).cells = #[c x]) (hsto : ∀ (w : World) (p : Addr), (w.cell? p).isSome = true → w.frozen? p = false → (Instr.storeAt e (.pointer (some p)) (c u)).run P w = .ok () (w.setCell p (c u)))
   (hs : a.eval s = .slice ad l.length cap) (hx : a.eval x = .int .i64 k) (hO : Own c 1 B e w (.slice ad l.length cap) l) (h0 : 0 ≤ k) (hk : k < l.length)
   (hd : ∀ p, (a.put (some d1) p).eval (.tmp d1) = p) (hy : ∀ p, (a.put (some d1) p).eval y = c u)
   (hK : ∀ p w', Own c 1 B e w' (.slice ad l.length cap) (l.set k.toNat u) → w.grownBy w' (Value.slice ad l.length cap).ownBlock → wpList P ops Q rest ((a.put (some d1) p).put none undef) w') :
   wpList P ops Q (⟨some d1, .indexAddr t s x, ty1, p1, af1, none⟩ :: ⟨none, .store e (.tmp d1) y, ty2, p2, af2, none⟩ :: rest) a w := by
 obtain ⟨g, rfl, hB, hcell, hfr, hO', hg⟩ := own_store hc1 hO u k h0 hk
 refine wpList_plain rfl fun K hK' => ?_
 have h1 := run_indexAt_sl (P := P) (a := ⟨g, 0, none⟩) (cap := cap) w E h0 hk
 unfold Oper.wp
 simp only [execOp, hs, hx]
 simp [h1, Result.andThen]
 refine hK' _ _ (wpList_plain rfl fun K2 hK2 => ?_)
 unfold Oper.wp
 simp only [execOp, hd, hy]
 have h2 := hsto w ⟨g, k.toNat, none⟩ hcell hfr
 rw [Addr.add_z, Nat.zero_add]
 simp [h2, Result.andThen]
 exact hK2 _ _ (hK _ _ hO' hg)

end
end Go.Proofs.YtndmeaoidihikaaGreatDoor

namespace Go.Proofs.YtndmeaoidihikaaGreatDoor
open Go.RowKit

end Go.Proofs.YtndmeaoidihikaaGreatDoor

namespace Go.Proofs.YtndmeaoidihikaaGreatDoor
open Go.RowKit
end Go.Proofs.YtndmeaoidihikaaGreatDoor

namespace Go.Proofs.YtndmeaoidihikaaGreatDoor
open Go.RowKit
set_option maxRecDepth 100000

theorem sto_bool (u : Bool) (w : World) (p : Addr) (h1 : (w.cell? p).isSome = true) (h2 : w.frozen? p = false) : (Instr.storeAt 4 (.pointer (some p)) (cBool u)).run Tryz.prog w = .ok () (w.setCell p (cBool u)) := by
 obtain ⟨v, hv⟩ := Option.isSome_iff_exists.1 h1
 simp [go_sem, hv, h2]
end Go.Proofs.YtndmeaoidihikaaGreatDoor

namespace Go.Proofs.YtndmeaoidihikaaGreatDoor
open Go.RowKit
set_option maxHeartbeats 1000000
set_option maxRecDepth 100000

end Go.Proofs.YtndmeaoidihikaaGreatDoor

namespace Go.Proofs.YtndmeaoidihikaaGreatDoor
open Go.RowKit
set_option maxRecDepth 100000

section
variable {B : Nat} {w0 w w' : World} {L K : List Pc}
end

section
variable {B : Nat} {w0 w w' : World} {L : List Pc} {α : Type} {c : α → Value} {sz : Nat} {e : TypeId} {v : Value} {l : List α}
end

section
variable {P : Program} {ops : Array Oper} {rest : List Oper} {a : Act} {Q : Exit → Act → World → Prop} {α : Type} {c : α → Value} {sz bytes B : Nat} {t e : TypeId} {z v : Value} {w0 w : World} {L : List Pc} {l : List α}
theorem wpList_storeL {d1 : Tmp} {ty1 ty2 : TypeId} {p1 p2 : String} {s x y : Operand} {af1 af2 : Array Edge} {ad : Option Addr} {n cap : Nat} {k : Int} {u : α} (i : Nat)
   (E : ETy P t e z 1 bytes) (hc1 : ∀ x, (c x).cells = #[c x]) (hsto : ∀ (u : α) (w : World) (p : Addr), (w.cell? p).isSome = true → w.frozen? p = false → (Instr.storeAt e (.pointer (some p)) (c u)).run P w = .ok () (w.setCell p (c u)))
   (hs : a.eval s = .slice ad n cap) (hx : a.eval x = .int .i64 k) (hS : SL B w0 w L) (hi : L[i]? = some (pOwn c 1 e (.slice ad n cap) l)) (h0 : 0 ≤ k) (hk : k < l.length)
   (hd : ∀ p, (a.put (some d1) p).eval (.tmp d1) = p) (hy : ∀ p, (a.put (some d1) p).eval y = c u)
   (hK : ∀ p w', SL B w0 w' (L.set i (pOwn c 1 e (.slice ad n cap) (l.set k.toNat u))) → wpList P ops Q rest ((a.put (some d1) p).put none undef) w') :
   wpList P ops Q (⟨some d1, .indexAddr t s x, ty1, p1, af1, none⟩ :: ⟨none, .store e (.tmp d1) y, ty2, p2, af2, none⟩ :: rest) a w := by
 obtain ⟨a', cap', e1, _⟩ := hS.slice i hi
 simp only [Value.slice.injEq] at e1
 obtain ⟨rfl, rfl, rfl⟩ := e1
 obtain ⟨b, ⟨h2, h3⟩, h4, h5⟩ := hS.upd i hi
 refine wpList_store (l := l) (B := 0) u E hc1 (hsto u) hs hx h2 h0 hk hd hy (fun p w' ho hg => hK p w' (h5 w' _ b (h3 ▸ hg) ⟨ho, h3⟩ (.inl rfl)))
end
section
variable {ops : Array Oper} {rest : List Oper} {a : Act} {Q : Exit → Act → World → Prop} {d : Option Tmp} {ty : TypeId} {p : String} {m x y : Operand} {af : Array Edge} {b n B : Nat} {k : Int} {w0 w : World} {L : List Pc}
end
end Go.Proofs.YtndmeaoidihikaaGreatDoor

namespace Go.Proofs.YtndmeaoidihikaaGreatDoor
open Go.RowKit
set_option maxRecDepth 100000

section
variable {B : Nat} {w0 w w' : World} {L K : List Pc}
end

section
variable {α : Type} {c : α → Value} {sz : Nat} {e : TypeId} {v : Value} {l : List α} {B : Nat} {W0 w : World} {L : List Pc}
end
end Go.Proofs.YtndmeaoidihikaaGreatDoor

namespace Go.Proofs.YtndmeaoidihikaaGreatDoor
open Go.RowKit
set_option maxHeartbeats 400000
set_option maxRecDepth 100000

instance : Inhabited PassV := ⟨⟨0, 0, ByteArray.empty⟩⟩
def byteAt (s : ByteArray) (k : Nat) : Int := if h : k < s.size then ((s[k]'h).toNat : Int) else 0
theorem byteAt_in {s : ByteArray} {k : Nat} (h : k < s.size) : byteAt s k = ((s[k]'h).toNat : Int) := by simp [byteAt, h]

end Go.Proofs.YtndmeaoidihikaaGreatDoor

namespace Go.Proofs.YtndmeaoidihikaaGreatDoor
open Go.RowKit
set_option maxHeartbeats 400000
set_option maxRecDepth 100000

end Go.Proofs.YtndmeaoidihikaaGreatDoor

namespace Go.Proofs.YtndmeaoidihikaaGreatDoor
open Go.RowKit
set_option maxHeartbeats 1000000
set_option maxRecDepth 100000

section
variable {s : List Int} {ms : List (Int × Int)} {p : List Int}
end

theorem lcmF_lcm (o n : Nat) : lcmF o n = Nat.lcm o n := by
 unfold lcmF Nat.lcm
 rw [Nat.div_mul_right_comm (Nat.gcd_dvd_left o n)]
theorem perF_dvd (k : Nat) : ∀ (ls : List Nat) (o : Nat), ls.foldl lcmF o ∣ k ↔ o ∣ k ∧ ∀ n ∈ ls, n ∣ k
 | [], o => by simp
 | n :: r, o => by
   rw [List.foldl_cons, perF_dvd k r, lcmF_lcm, Nat.lcm_dvd_iff]
   simp [and_assoc]
theorem cycK_orb {p : List Int} (hp : IsP p) : ∀ {k : Nat}, k ≤ p.length → ∀ l ∈ cycK p k, ∃ j : Nat, j < k ∧ l = orb p j
 | 0, _, l, h => by simp [cycK] at h
 | k + 1, hk, l, h => by
   rw [cycK] at h
   split at h
   · obtain ⟨j, a, b⟩ := cycK_orb hp (by omega) l h; exact ⟨j, by omega, b⟩
   · rcases List.mem_append.1 h with h | h
     · obtain ⟨j, a, b⟩ := cycK_orb hp (by omega) l h; exact ⟨j, by omega, b⟩
     · simp at h; exact ⟨k, by omega, h⟩
theorem cycK_all {p : List Int} (hp : IsP p) : ∀ {k : Nat}, k ≤ p.length → ∀ j : Nat, j < k → (j : Int) ∈ (cycK p k).flatten
 | 0, _, j, h => by omega
 | k + 1, hk, j, h => by
   rw [cycK]
   split
   · rename_i hin
     by_cases e : j = k
     · subst e; exact hin
     · exact cycK_all hp (by omega) j (by omega)
   · rw [List.flatten_append]
     by_cases e : j = k
     · subst e
       refine List.mem_append_right _ ?_
       obtain ⟨d, hd⟩ := ord_ex hp (i := (j : Int)) (by omega) (by omega)
       simp only [List.flatten_cons, List.flatten_nil, List.append_nil]
       rw [orb_eq hd]
       exact List.mem_map.2 ⟨0, by simp [hd.pos], rfl⟩
     · exact List.mem_append_left _ (cycK_all hp (by omega) j (by omega))
def wgt (o m : Nat) : Nat := if m ∣ o then m * 4 ^ m else 5 ^ m
def wgtL (o : Nat) : List Nat → Nat
 | [] => 1
 | m :: r => wgt o m * wgtL o r
theorem wgt_mono {o o' m : Nat} (h : o ∣ o') (hm : 5 ^ m ≤ m * 4 ^ m) : wgt o m ≤ wgt o' m := by
 unfold wgt
 by_cases a : m ∣ o
 ·rw [if_pos a, if_pos (Nat.dvd_trans a h)]; exact Nat.le_refl _
 ·rw [if_neg a]; split
  ·exact hm
  ·exact Nat.le_refl _
theorem wgtL_mono {o o' : Nat} (h : o ∣ o') : ∀ ms : List Nat, (∀ m ∈ ms, 5 ^ m ≤ m * 4 ^ m) → wgtL o ms ≤ wgtL o' ms
 | [], _ => Nat.le_refl _
 | m :: r, hm => Nat.mul_le_mul (wgt_mono h (hm m (by simp))) (wgtL_mono h r (fun x hx => hm x (by simp [hx])))
theorem wgtL_in {o o' n : Nat} (h : o ∣ o') (h1 : ¬ n ∣ o) (h2 : n ∣ o') : ∀ ms : List Nat, (∀ m ∈ ms, 5 ^ m ≤ m * 4 ^ m) → n ∈ ms → wgtL o ms * (n * 4 ^ n) ≤ wgtL o' ms * 5 ^ n
 | [], _, hn => by simp at hn
 | m :: r, hm, hn => by
   rw [wgtL, wgtL]
   by_cases e : n = m
   · subst e
     have hr := wgtL_mono h r (fun x hx => hm x (by simp [hx]))
     have a1 : wgt o n = 5 ^ n := if_neg h1
     have a2 : wgt o' n = n * 4 ^ n := if_pos h2
     rw [a1, a2]
     calc 5 ^ n * wgtL o r * (n * 4 ^ n) = (n * 4 ^ n) * wgtL o r * 5 ^ n := by ac_rfl
       _ ≤ (n * 4 ^ n) * wgtL o' r * 5 ^ n := Nat.mul_le_mul_right _ (Nat.mul_le_mul_left _ hr)
   · have hr := wgtL_in h h1 h2 r (fun x hx => hm x (by simp [hx])) (by simpa [e] using hn)
     have hw := wgt_mono h (hm m (by simp))
     calc wgt o m * wgtL o r * (n * 4 ^ n) = wgt o m * (wgtL o r * (n * 4 ^ n)) := by ac_rfl
       _ ≤ wgt o' m * (wgtL o' r * 5 ^ n) := Nat.mul_le_mul hw hr
       _ = wgt o' m * wgtL o' r * 5 ^ n := by ac_rfl
def msW : List Nat := [2, 3, 4, 5, 6, 7, 8, 9, 10]
theorem msW_ok : ∀ m ∈ msW, 5 ^ m ≤ m * 4 ^ m := by decide
theorem big_pow : ∀ n : Nat, 11 ≤ n → n * 4 ^ n ≤ 5 ^ n := by
 intro n h
 induction n with
 | zero => omega
 | succ n ih =>
  by_cases e : n + 1 = 11
  ·have : n = 10 := by omega
   subst this; decide
  ·have := ih (by omega)
   rw [Nat.pow_succ, Nat.pow_succ]
   have h4 : (n + 1) * (4 ^ n * 4) = 4 * (n + 1) * 4 ^ n := by ac_rfl
   rw [h4]
   calc 4 * (n + 1) * 4 ^ n ≤ 5 * n * 4 ^ n := Nat.mul_le_mul_right _ (by omega)
    _ = 5 * (n * 4 ^ n) := by ac_rfl
    _ ≤ 5 * 5 ^ n := Nat.mul_le_mul_left _ this
    _ = 5 ^ n * 5 := by ac_rfl
theorem perW (kW : Nat) (ls : List Nat) : ∀ (o s : Nat), (∀ n ∈ ls, 0 < n) → o * 4 ^ s * kW ≤ 5 ^ s * wgtL o msW → (ls.foldl lcmF o) * 4 ^ (s + ls.sum) * kW ≤ 5 ^ (s + ls.sum) * wgtL (ls.foldl lcmF o) msW := by
 induction ls with
 | nil => intro o s _ h; rw [List.foldl_nil, List.sum_nil, Nat.add_zero]; exact h
 | cons n r ih =>
  intro o s hp h
  have hn := hp n (by simp)
  rw [List.foldl_cons, List.sum_cons, ← Nat.add_assoc]
  refine ih _ _ (fun x hx => hp x (by simp [hx])) ?_
  have h4 : 4 ^ n ≤ 5 ^ n := Nat.pow_le_pow_left (by decide) n
  rw [Nat.pow_add, Nat.pow_add]
  have hd1 : o ∣ lcmF o n := by rw [lcmF_lcm]; exact Nat.dvd_lcm_left _ _
  have hd2 : n ∣ lcmF o n := by rw [lcmF_lcm]; exact Nat.dvd_lcm_right _ _
  have hle := lcmF_le o n
  by_cases hdv : n ∣ o
  ·have e : lcmF o n = o := by rw [lcmF_lcm]; exact Nat.lcm_eq_left hdv
   rw [e]
   calc o * (4 ^ s * 4 ^ n) * kW = (o * 4 ^ s * kW) * 4 ^ n := by ac_rfl
    _ ≤ (5 ^ s * wgtL o msW) * 5 ^ n := Nat.mul_le_mul h h4
    _ = 5 ^ s * 5 ^ n * wgtL o msW := by ac_rfl
  ·have h1 : lcmF o n * (4 ^ s * 4 ^ n) * kW ≤ (5 ^ s * wgtL o msW) * (n * 4 ^ n) := by
    calc lcmF o n * (4 ^ s * 4 ^ n) * kW ≤ (o * n) * (4 ^ s * 4 ^ n) * kW := Nat.mul_le_mul_right _ (Nat.mul_le_mul_right _ hle)
     _ = (o * 4 ^ s * kW) * (n * 4 ^ n) := by ac_rfl
     _ ≤ (5 ^ s * wgtL o msW) * (n * 4 ^ n) := Nat.mul_le_mul_right _ h
   refine Nat.le_trans h1 ?_
   by_cases h10 : n ≤ 10
   ·have hin : n ∈ msW := by
     have h2 : n ≠ 1 := fun e => hdv (by rw [e]; exact Nat.one_dvd _)
     have : n = 2 ∨ n = 3 ∨ n = 4 ∨ n = 5 ∨ n = 6 ∨ n = 7 ∨ n = 8 ∨ n = 9 ∨ n = 10 := by omega
     unfold msW
     rcases this with rfl | rfl | rfl | rfl | rfl | rfl | rfl | rfl | rfl <;> decide
    have hw := wgtL_in hd1 hdv hd2 msW msW_ok hin
    calc 5 ^ s * wgtL o msW * (n * 4 ^ n) = 5 ^ s * (wgtL o msW * (n * 4 ^ n)) := by ac_rfl
     _ ≤ 5 ^ s * (wgtL (lcmF o n) msW * 5 ^ n) := Nat.mul_le_mul_left _ hw
     _ = 5 ^ s * 5 ^ n * wgtL (lcmF o n) msW := by ac_rfl
   ·have hb := big_pow n (by omega)
    have hw := wgtL_mono hd1 msW msW_ok
    calc 5 ^ s * wgtL o msW * (n * 4 ^ n) ≤ 5 ^ s * wgtL (lcmF o n) msW * 5 ^ n := Nat.mul_le_mul (Nat.mul_le_mul_left _ hw) hb
     _ = 5 ^ s * 5 ^ n * wgtL (lcmF o n) msW := by ac_rfl
theorem wgtL_top (o : Nat) : ∀ ms : List Nat, (∀ m ∈ ms, 5 ^ m ≤ m * 4 ^ m) → wgtL o ms ≤ wgtL 0 ms := fun ms h => wgtL_mono (Nat.dvd_zero o) ms h
theorem perF_small (ls : List Nat) (hp : ∀ n ∈ ls, 0 < n) (h : ls.sum ≤ 64) : perF ls < 100000000 := by
 have h0 := perW (5 ^ 54) ls 1 0 hp (by decide +kernel)
 rw [Nat.zero_add] at h0
 have h1 := Nat.le_trans h0 (Nat.mul_le_mul_left _ (wgtL_top _ msW msW_ok))
 obtain ⟨k, hk⟩ : ∃ k, 64 = ls.sum + k := ⟨64 - ls.sum, by omega⟩
 have h2 : perF ls * 4 ^ 64 * 5 ^ 54 ≤ 5 ^ 64 * wgtL 0 msW := by
  rw [hk, Nat.pow_add, Nat.pow_add]
  calc perF ls * (4 ^ ls.sum * 4 ^ k) * 5 ^ 54 = (perF ls * 4 ^ ls.sum * 5 ^ 54) * 4 ^ k := by ac_rfl
   _ ≤ (5 ^ ls.sum * wgtL 0 msW) * 5 ^ k := Nat.mul_le_mul h1 (Nat.pow_le_pow_left (by decide) k)
   _ = 5 ^ ls.sum * 5 ^ k * wgtL 0 msW := by ac_rfl
 rcases Nat.lt_or_ge (perF ls) 100000000 with h3 | h3
 ·exact h3
 ·exfalso
  have h4 := Nat.le_trans (Nat.mul_le_mul_right (5 ^ 54) (Nat.mul_le_mul_right (4 ^ 64) h3)) h2
  exact absurd h4 (by decide +kernel)
end Go.Proofs.YtndmeaoidihikaaGreatDoor

namespace Go.Proofs.YtndmeaoidihikaaGreatDoor
open Go.RowKit
set_option maxHeartbeats 1000000
set_option maxRecDepth 100000

theorem period_pos {p : List Int} (hp : IsP p) : 0 < periodN p := perF_pos _ 1 (by decide) (fun n hn => by obtain ⟨l, hl, rfl⟩ := List.mem_map.1 hn; exact cycK_pos hp (Nat.le_refl _) l hl)
theorem period_small {p : List Int} (hp : IsP p) (h : p.length ≤ 64) : periodN p < 100000000 := by
 refine perF_small _ (fun n hn => ?_) (Nat.le_trans (cycK_sum hp (Nat.le_refl _)) h)
 obtain ⟨l, hl, rfl⟩ := List.mem_map.1 hn; exact cycK_pos hp (Nat.le_refl _) l hl

theorem atB_set {l : List Bool} {i j : Int} {x : Bool} (h0 : 0 ≤ i) (h1 : i < l.length) (hj : 0 ≤ j) : atD false (l.set i.toNat x) j = if j = i then x else atD false l j := by
 unfold atD
 rw [List.getD_eq_getElem?_getD, List.getElem?_set]
 by_cases h : j = i
 ·subst h; simp [show j.toNat < l.length by omega]
 ·have : ¬ i.toNat = j.toNat := by omega
  simp [h, this]
end Go.Proofs.YtndmeaoidihikaaGreatDoor

namespace Go.Proofs.YtndmeaoidihikaaGreatDoor
open Go.RowKit
set_option maxHeartbeats 1000000
set_option maxRecDepth 100000

open Go.Maps in
theorem CntD.step {D : DataW Unit} {l : List Int} (h : CntD D l) {x : Int} (hk : WideAt.IsKeyLit (.int .i64 x)) : CntD (D.put (.int .i64 x) (.lit (.int .i64 ((l.count x : Int) + 1)))) (l ++ [x]) := by
 refine ⟨h.map.put _ _, fun kl => ?_, fun y hy z => ?_⟩
 ·by_cases e : kl = .int .i64 x
  ·subst e
   rw [has_put_same h.map hk]
   simp
  ·rw [has_put_other e, h.key]
   constructor
   ·rintro ⟨y, hy, rfl⟩; exact ⟨y, by simp [hy], rfl⟩
   ·rintro ⟨y, hy, rfl⟩
    rcases List.mem_append.1 hy with hy | hy
    ·exact ⟨y, hy, rfl⟩
    ·simp only [List.mem_singleton] at hy
     subst hy; exact absurd rfl e
 ·by_cases e : y = x
  ·subst e
   rw [atKey_put_same h.map hk]
   simp
  ·have hy2 : y ∈ l := by
    rcases List.mem_append.1 hy with hy | hy
    ·exact hy
    ·simp only [List.mem_singleton] at hy; exact absurd hy e
   rw [atKey_put_other (fun e2 => e (by cases e2; rfl)), h.cnt y hy2]
   have : ([x] : List Int).count y = 0 := List.count_eq_zero.2 (by simpa using e)
   rw [List.count_append, this, Nat.add_zero]
end Go.Proofs.YtndmeaoidihikaaGreatDoor

namespace Go.Proofs.YtndmeaoidihikaaGreatDoor
open Go.RowKit Go.Maps
set_option maxRecDepth 100000

def pCnt (k n : Nat) (l : List Int) : Pc where
 P w b := b = some k ∧ CntM w k n l
 lt w j h := by obtain ⟨h1, h2⟩ := h; cases h1; exact h2.lt
 loc w w' row b h hg hne := ⟨h.1, h.2.kept hg (fun e => hne k h.1 e.symm)⟩
theorem SL.cnt {B : Nat} {w0 w : World} {L : List Pc} {k n : Nat} {l : List Int} (h : SL B w0 w L) (i : Nat) (hi : L[i]? = some (pCnt k n l)) : CntM w k n l := by
 obtain ⟨b, ⟨_, h1⟩, _⟩ := h.upd i hi
 exact h1
section
variable {ops : Array Oper} {rest : List Oper} {a : Act} {Q : Exit → Act → World → Prop} {d : Option Tmp} {ty : TypeId} {p : String} {m x y : Operand} {af : Array Edge} {g : Option (Nat × Bool)} {b n B : Nat} {k : Int} {w0 w : World} {L : List Pc} {l : List Int}
end
section
variable {P : Program} {ops : Array Oper} {rest : List Oper} {a : Act} {α : Type} {c : α → Value} {sz bytes : Nat} {t e t2 e2 : TypeId} {z : Value} {ad : Option Addr} {cap n : Nat} {l : List α} {k : Int} {w : World}
 {d1 d2 d3 : Tmp} {ty1 ty2 ty3 : TypeId} {p1 p2 p3 : String} {s x : Operand} {af1 af2 af3 : Array Edge} {j : Nat} {g1 g2 g3 : Option (Nat × Bool)}
end
section
variable {P : Program} {ops : Array Oper} {a : Act} {ty : TypeId} {p : String} {af : Array Edge} {g : Option (Nat × Bool)} {d : Tmp} {C : World → Prop}
end
end Go.Proofs.YtndmeaoidihikaaGreatDoor

namespace Go.Proofs.YtndmeaoidihikaaGreatDoor
open Go.RowKit
set_option maxHeartbeats 1000000
set_option maxRecDepth 100000

theorem decD_len : ∀ (k u : Nat), u < 10 ^ (k + 1) → (Lib.decDigits u).length ≤ k + 1
 | 0, u, h => by rw [decD_small (by simpa using h)]; simp
 | k + 1, u, h => by
   by_cases h1 : u < 10
   · rw [decD_small h1]; simp
   · rw [decD_big h1]
     have := decD_len k (u / 10) (by rw [Nat.pow_succ] at h; omega)
     simp; omega
theorem bT_app (l m : List UInt8) : bT l ++ bT m = bT (l ++ m) := by unfold bT; rw [ByteArray.mk_append_mk]; try simp
theorem bT_at {l : List UInt8} {k : Nat} (h : k < l.length) : byteAt (bT l) k = (l[k].toNat : Int) := by
 rw [byteAt_in (by rw [bT_size]; exact h), ByteArray.getElem_eq_getElem_data]
 simp [bT]
theorem bT_extract (l : List UInt8) (i j : Nat) : (bT l).extract i j = bT ((l.take j).drop i) := by
 unfold bT
 apply ByteArray.ext
 rw [ByteArray.data_extract]
 apply Array.ext'
 simp only [Array.toList_extract, List.extract_eq_take_drop]
 rw [List.drop_take]
def dig10 : ByteArray := ⟨#[48, 49, 50, 51, 52, 53, 54, 55, 56, 57]⟩
theorem dig10_at : ∀ d : Nat, d < 10 → dig10.extract d (d + 1) = bT [UInt8.ofNat (48 + d)] := by decide

/-- where a decimal text stands while it is made from behind. -/
def decInv (N c : Nat) (t : List UInt8) : Prop := (c = 0 ∧ t ≠ [] ∧ t = Lib.decDigits N) ∨ ((0 < c ∨ t = []) ∧ Lib.decDigits N = Lib.decDigits c ++ t)
theorem decInv_start (N : Nat) : decInv N N [] := .inr ⟨.inr rfl, by simp⟩
theorem decInv_len {N c : Nat} {t : List UInt8} (h : decInv N c t) : t.length ≤ (Lib.decDigits N).length := by
 rcases h with ⟨_, _, rfl⟩ | ⟨_, e⟩
 ·exact Nat.le_refl _
 ·rw [e]; simp
theorem decInv_step {N c : Nat} {t : List UInt8} (h : decInv N c t) (hc : 0 < c ∨ t = []) : decInv N (c / 10) (UInt8.ofNat (48 + c % 10) :: t) := by
 have e : Lib.decDigits N = Lib.decDigits c ++ t := by
  rcases h with ⟨a, b, _⟩ | ⟨_, e⟩
  ·rcases hc with h1 | h1
   ·omega
   ·exact absurd h1 b
  ·exact e
 by_cases h1 : c < 10
 ·refine .inl ⟨by omega, by simp, ?_⟩
  rw [e, decD_small h1, Nat.mod_eq_of_lt h1]; rfl
 ·refine .inr ⟨.inl (by omega), ?_⟩
  rw [e, decD_big h1, List.append_assoc]; rfl
theorem decInv_end {N : Nat} {t : List UInt8} (h : decInv N 0 t) (ht : t ≠ []) : bT t = itoaB (N : Int) := by
 rw [itoaB_bT]
 rcases h with ⟨_, _, rfl⟩ | ⟨h1, _⟩
 ·rfl
 ·rcases h1 with h1 | h1
  ·omega
  ·exact absurd h1 ht

def textQ (p q : Nat) : ByteArray := if q = 1 then itoaB (p : Int) else itoaB (p : Int) ++ ⟨#[47]⟩ ++ itoaB (q : Int)
def textQL (p q : Nat) : List UInt8 := if q = 1 then Lib.decDigits p else Lib.decDigits p ++ 47 :: Lib.decDigits q
theorem textQ_bT (p q : Nat) : textQ p q = bT (textQL p q) := by
 unfold textQ textQL
 split
 ·exact itoaB_bT p
 ·rw [itoaB_bT, itoaB_bT, show (⟨#[47]⟩ : ByteArray) = bT [47] from rfl, bT_app, bT_app]; simp
theorem textQ_one (p : Nat) : textQ p 1 = itoaB (p : Int) := by unfold textQ; rw [if_pos rfl]
theorem textQ_size {p q : Nat} (hp : p < 1000000000) (hq : q < 1000000000) : (textQ p q).size ≤ 19 ∧ 0 < (textQ p q).size := by
 have h1 := decD_len 8 p hp
 have h2 := decD_len 8 q hq
 have h3 := decD_pos p
 rw [textQ_bT, bT_size]
 unfold textQL
 split
 ·omega
 ·simp; omega
theorem itoaB_len {p : Nat} (hp : p < 1000000000) : (itoaB (p : Int)).size ≤ 9 ∧ 0 < (itoaB (p : Int)).size := by
 have h1 := decD_len 8 p hp
 have h3 := decD_pos p
 rw [itoaB_bT, bT_size]; omega
/-- the place of the slash, or the length. -/
structure SlashAt (s : ByteArray) (k : Nat) : Prop where
 le : k ≤ s.size
 no : ∀ j : Nat, j < k → byteAt s j ≠ 47
 yes : k < s.size → byteAt s k = 47
theorem textQ_pre {p q j : Nat} (h : j < (itoaB (p : Int)).size) : 48 ≤ byteAt (textQ p q) j ∧ byteAt (textQ p q) j ≤ 57 := by
 rw [itoaB_bT, bT_size] at h
 have hl : j < (textQL p q).length := by
  unfold textQL; split
  ·exact h
  ·simp; omega
 have e : (textQL p q)[j] = (Lib.decDigits p)[j] := by
  have : (textQL p q)[j]? = (Lib.decDigits p)[j]? := by
   unfold textQL; split
   ·rfl
   ·rw [List.getElem?_append_left h]
  rw [List.getElem?_eq_getElem hl, List.getElem?_eq_getElem h] at this
  exact Option.some.inj this
 rw [textQ_bT, bT_at hl, e]
 have := decD_dig p _ (List.getElem_mem h)
 omega
theorem textQ_slash (p q : Nat) : SlashAt (textQ p q) (itoaB (p : Int)).size := by
 refine ⟨?_, fun j hj => by have := (textQ_pre (q := q) hj).1; omega, ?_⟩
 ·rw [textQ_bT, bT_size, itoaB_bT, bT_size]; unfold textQL; split
  ·exact Nat.le_refl _
  ·simp
 ·intro h
  rw [textQ_bT, bT_size, itoaB_bT, bT_size] at h
  rw [textQ_bT, itoaB_bT, bT_size, bT_at h]
  have : (textQL p q)[(Lib.decDigits p).length] = 47 := by
   unfold textQL at h ⊢
   split at h
   ·omega
   ·rename_i h1
    simp [h1]
  rw [this]; rfl
theorem textQ_num (p q : Nat) : (textQ p q).extract 0 (itoaB (p : Int)).size = itoaB (p : Int) := by
 rw [textQ_bT, itoaB_bT, bT_size, bT_extract]
 unfold textQL
 split <;> simp
theorem textQ_den {p q : Nat} (h : q ≠ 1) : (textQ p q).extract ((itoaB (p : Int)).size + 1) (textQ p q).size = itoaB (q : Int) := by
 rw [textQ_bT, itoaB_bT, itoaB_bT, bT_size, bT_size, bT_extract, List.take_of_length_le (Nat.le_refl _)]
 unfold textQL
 rw [if_neg h, List.drop_append]
 simp [List.drop_of_length_le]
theorem textQ_lt {p q : Nat} : (itoaB (p : Int)).size < (textQ p q).size ↔ q ≠ 1 := by
 rw [textQ_bT, itoaB_bT, bT_size, bT_size]
 unfold textQL
 split
 ·simp [*]
 ·simp [*]
theorem textQ_sz {p q : Nat} (h : q ≠ 1) : (textQ p q).size = (itoaB (p : Int)).size + 1 + (itoaB (q : Int)).size := by
 rw [textQ_bT, itoaB_bT, itoaB_bT, bT_size, bT_size, bT_size]
 unfold textQL
 rw [if_neg h]; simp; omega
theorem itoaB_dig {p k : Nat} (h : k < (itoaB (p : Int)).size) : 48 ≤ byteAt (itoaB (p : Int)) k ∧ byteAt (itoaB (p : Int)) k ≤ 57 := by
 have := textQ_pre (p := p) (q := 1) h
 rwa [textQ_one] at this

theorem wD_len (n : Nat) : (wD n).length ≤ 1 := by unfold wD; split <;> simp
theorem wD_pos {n : Nat} (h : 0 < n) : wD n = [(n : Int)] := by unfold wD; rw [if_neg (by omega)]
end Go.Proofs.YtndmeaoidihikaaGreatDoor

namespace Go.Proofs.YtndmeaoidihikaaGreatDoor
open Go.RowKit
set_option maxHeartbeats 2000000
set_option maxRecDepth 100000

def strZ : Value → Nat | .string s => if s.size = 0 then 1 else 0 | _ => 0
theorem rdecimal_any (N : Nat) (w : World) (hN : N < 1000000000000000000) :
  Calls Tryz.prog 98 #[.int .i64 N, .int .i64 1] w fun r w' => r = .returned (.string (itoaB N)) ∧ w = w' := by
 have hl := decD_len 17 N (by simpa using hN)
 have HL := hid hl
 clear hl
 go_enter Tryz.func98, Tryz.ntmps98
 go_wp2_with fail
 go_loopw [0, 5] (fun nv sv wr => ∃ (c : Nat) (t : List UInt8), nv = .int .i64 c ∧ sv = .string (bT t) ∧ c ≤ N ∧ decInv N c t ∧ w = wr) (fun nv sv _ => (intOf nv).toNat + strZ sv)
 case atStart => exact ⟨N, [], rfl, rfl, Nat.le_refl _, decInv_start N, rfl⟩
 case round =>
  obtain ⟨c, t, rfl, rfl, hc, hinv, rfl⟩ := hrel
  have hsz : (bT t).size ≤ 18 := by have := decInv_len hinv; have := HL.out; rw [bT_size]; omega
  have hst := fun h => decInv_step hinv h
  have HST := hid hst
  have hx := dig10_at (c % 10) (Nat.mod_lt _ (by decide))
  have HX := hid hx
  have HINV := hid hinv
  clear hst hx hinv
  by_cases h0 : 0 < c
  ·go_wp2_with fail
   have hx := HX.out
   unfold dig10 at hx
   refine ⟨⟨c / 10, (UInt8.ofNat (48 + c % 10) :: t), by first | omega | (congr 1; done) | (congr 1; omega) | rfl, by rw [hx, bT_app]; rfl, by omega, HST.out (.inl h0), by trivial⟩, ?_⟩
   rw [hx, bT_app]
   simp only [strZ, bT_size, intOf]
   simp
   omega
  ·have hc0 : c = 0 := by omega
   subst hc0
   by_cases ht : t = []
   ·subst ht
    go_wp2_with fail
    exact ⟨⟨0, [48], rfl, by first | rfl | (congr 1; decide), by omega, HST.out (.inr rfl), by trivial⟩, by first | decide | kernel_rfl | (simp [strZ, intOf]; decide)⟩
   ·have hs1 : ¬ (bT t).size < 1 := by rw [bT_size]; have := List.length_pos_iff.2 ht; omega
    have he := decInv_end HINV.out ht
    have HE := hid he; clear he
    go_wp2_with fail
    go_ret
    exact ⟨by rw [HE.out]; rfl, rfl⟩

theorem rslash_any (s : ByteArray) (K : Nat) (w : World) (h : SlashAt s K) (hz : s.size ≤ 1048576) :
  Calls Tryz.prog 44 #[.string s] w fun r w' => r = .returned (.int .i64 K) ∧ w = w' := by
 have h1 := h.le
 have HN := hid h.no; have HY := hid h.yes
 clear h
 go_enter Tryz.func44, Tryz.ntmps44
 go_wp2_with fail
 go_loopw [3] (fun i wr => ∃ k : Nat, k ≤ K ∧ i = .int .i64 k ∧ w = wr) (fun i _ => s.size - (intOf i).toNat)
 case atStart => exact ⟨0, by omega, rfl, rfl⟩
 case round =>
  obtain ⟨k, hk, rfl, rfl⟩ := hrel
  by_cases hlt : k < s.size
  ·have hb := byteAt_in hlt
   by_cases e : k = K
   ·subst e
    have hy := HY.out hlt
    rw [hb] at hy
    have d1 : (((s[k]'hlt).toNat : Int) == 47) = true := by simpa using hy
    clear hy hb
    go_wp2_with fail
    go_ret
    exact ⟨rfl, rfl⟩
   ·have hn := HN.out k (by omega)
    rw [hb] at hn
    have d1 : (((s[k]'hlt).toNat : Int) == 47) = false := by simpa using hn
    clear hn hb
    go_wp2_with fail
    exact ⟨⟨k + 1, by omega, by go_num, by trivial⟩, by simp [intOf]; omega⟩
  ·have : k = K := by omega
   subst this
   have e : k = s.size := by omega
   have HE := hid e; clear e
   go_wp2_with fail
   go_ret
   exact ⟨by rw [← HE.out]; rfl, rfl⟩

theorem rvalue_any (p : Nat) (w : World) (hp : p < 1000000000) :
  Calls Tryz.prog 124 #[.string (itoaB p)] w fun r w' => r = .returned (.int .i64 p) ∧ w = w' := by
 have hz := (itoaB_len hp).1
 have hdig := fun k (h : k < (itoaB (p : Int)).size) => itoaB_dig (p := p) h
 have hval : ∀ k : Nat, k ≤ (itoaB (p : Int)).size → valL ((Lib.decDigits p).take k) < 10 ^ k := fun k hk => valL_lt _ (decD_dig p) k (by rw [itoaB_bT, bT_size] at hk; exact hk)
 have hstep : ∀ (k : Nat) (h : k < (itoaB (p : Int)).size), (valL ((Lib.decDigits p).take (k + 1)) : Int) = 10 * valL ((Lib.decDigits p).take k) + (((itoaB (p : Int))[k]'h).toNat : Int) - 48 := by
  intro k h
  have h2 : k < (Lib.decDigits p).length := by rw [itoaB_bT, bT_size] at h; exact h
  have h3 := decD_dig p _ (List.getElem_mem h2)
  have h4 : (((itoaB (p : Int))[k]'h).toNat : Int) = ((Lib.decDigits p)[k].toNat : Int) := by
   rw [← byteAt_in h]
   simp only [itoaB_bT]
   rw [bT_at h2]
  rw [h4, valL_take h2]; omega
 have hend : valL ((Lib.decDigits p).take (itoaB (p : Int)).size) = p := by
  rw [itoaB_bT, bT_size, List.take_of_length_le (Nat.le_refl _), valL_dec]
 obtain ⟨s, hs⟩ : ∃ s, s = itoaB (p : Int) := ⟨_, rfl⟩
 have hbig : ∀ k : Nat, k ≤ 9 → 10 ^ k ≤ 1000000000 := fun k hk => by
  have := Nat.pow_le_pow_right (n := 10) (by decide) hk
  simpa using this
 obtain ⟨vl, hvl⟩ : ∃ vl : Nat → Nat, vl = fun k => valL ((Lib.decDigits p).take k) := ⟨_, rfl⟩
 have hval2 : ∀ k : Nat, k ≤ s.size → vl k < 1000000000 := fun k hk => by
  rw [hs] at hk; rw [hvl]
  exact Nat.lt_of_lt_of_le (hval k hk) (hbig k (by omega))
 have hstep2 : ∀ (k : Nat) (h : k < s.size), (vl (k + 1) : Int) = 10 * vl k + ((s[k]'h).toNat : Int) - 48 := by subst hs; subst hvl; exact hstep
 have hend2 : vl s.size = p := by subst hs; subst hvl; exact hend
 have hdig2 : ∀ k (h : k < s.size), 48 ≤ byteAt s k ∧ byteAt s k ≤ 57 := by subst hs; exact hdig
 have h02 : vl 0 = 0 := by subst hvl; rfl
 rw [← hs] at hz ⊢
 have HV := hid hval2; have HS := hid hstep2; have HE := hid hend2; have HD := hid hdig2; have H0 := hid h02
 clear hval2 hstep2 hend2 hdig2 h02 hval hstep hend hdig hbig hs hvl
 go_enter Tryz.func124, Tryz.ntmps124
 go_wp2_with fail
 go_loopw [3, 4] (fun nv i wr => ∃ k : Nat, k ≤ s.size ∧ i = .int .i64 k ∧ nv = .int .i64 (vl k) ∧ w = wr) (fun _ i _ => s.size - (intOf i).toNat)
 case atStart => exact ⟨0, by omega, rfl, by rw [H0.out]; rfl, rfl⟩
 case round =>
  obtain ⟨k, hk, rfl, rfl, rfl⟩ := hrel
  have hv := HV.out k hk
  by_cases hlt : k < s.size
  ·have hd := HD.out k hlt
   rw [byteAt_in hlt] at hd
   have hst := HS.out k hlt
   have HST := hid hst; clear hst
   go_wp2_with fail
   exact ⟨⟨k + 1, by omega, by go_num, by rw [HST.out]; try (congr 1; omega), by trivial⟩, by simp [intOf]; omega⟩
  ·have : k = s.size := by omega
   subst this
   go_wp2_with fail
   go_ret
   exact ⟨by rw [HE.out]; rfl, rfl⟩

theorem rquick_any (p q : Nat) (w : World) (hp : p < 1000000000) (hq : q < 1000000000) :
  Calls Tryz.prog 94 #[.string (textQ p q)] w fun r w' => r = .returned (.tuple #[.int .i64 p, .int .i64 q, .bool true]) ∧ w = w' := by
 obtain ⟨z1, z2⟩ := textQ_size hp hq
 obtain ⟨z3, z4⟩ := itoaB_len hp
 obtain ⟨z5, z6⟩ := itoaB_len hq
 have hd := textQ_pre (p := p) (q := q) z4
 have hsl := textQ_slash p q
 have hnum := textQ_num p q
 have hle := hsl.le
 obtain ⟨s, hs⟩ : ∃ s, s = textQ p q := ⟨_, rfl⟩
 obtain ⟨k, hk⟩ : ∃ k, k = (itoaB (p : Int)).size := ⟨_, rfl⟩
 have CS := fun w => rslash_any s k w (by rw [hs, hk]; exact hsl) (by rw [hs]; omega)
 have CP := fun w => rvalue_any p w hp
 have CQ := fun w => rvalue_any q w hq
 rw [← hs] at z1 z2 hd hnum hle ⊢
 rw [← hk] at hnum z3 z4 hle
 have z2' : 0 < s.size := z2
 rw [byteAt_in z2'] at hd
 have d1 : (((s[0]'z2').toNat : Int) == 45) = false := by simp; omega
 have HCS := hid CS; have HCQ := hid CQ
 have HN := hid hnum
 by_cases h1 : q = 1
 ·have hks : k = s.size := by rw [hs, hk, h1, textQ_one]
  have hse : itoaB (p : Int) = s := by rw [hs, h1, textQ_one]
  rw [hse] at CP
  have HCP := hid CP
  subst h1
  clear hse CS CP CQ hnum hs hk hsl hd HCQ
  go_enter Tryz.func94, Tryz.ntmps94
  go_wp2_with fail
  refine (HCS.out _).mono ?_
  rintro e w' ⟨rfl, rfl⟩
  go_wp2_with fail
  refine (HCP.out _).mono ?_
  rintro e w' ⟨rfl, rfl⟩
  go_wp2_with fail
  go_ret3
  exact ⟨rfl, rfl⟩
 ·have hden := textQ_den (p := p) h1
  have hlt := (textQ_lt (p := p)).2 h1
  have hsz := textQ_sz (p := p) h1
  rw [← hs, ← hk] at hlt hden hsz
  rw [hsz] at hden
  have HDN := hid hden; have HCP := hid CP
  clear CS CP CQ hnum hs hk hsl hd hden
  go_enter Tryz.func94, Tryz.ntmps94
  go_wp2_with fail
  refine (HCS.out _).mono ?_
  rintro e w' ⟨rfl, rfl⟩
  go_wp2_with fail
  rw [HN.out]
  refine (HCP.out _).mono ?_
  rintro e w' ⟨rfl, rfl⟩
  go_wp2_with fail
  rw [HDN.out]
  refine (HCQ.out _).mono ?_
  rintro e w' ⟨rfl, rfl⟩
  go_wp2_with fail
  go_ret3
  exact ⟨rfl, rfl⟩
end Go.Proofs.YtndmeaoidihikaaGreatDoor

namespace Go.Proofs.YtndmeaoidihikaaGreatDoor
open Go.RowKit
set_option maxHeartbeats 2000000
set_option maxRecDepth 100000

theorem A_integer : Aggr Tryz.prog 81 := ⟨_, Tryz.underlying81, rfl⟩
theorem ints_empty (w : World) (b o cap : Nat) (h : cap ≤ 9223372036854775807) : Ints w (some ⟨b, o, none⟩) cap [] := ⟨cIntS, Nat.zero_le _, by unfold maxLen; omega, fun e => (by cases e), fun j u hu => (by simp at hu)⟩
theorem wd_ints {w : World} {a : Option Addr} {cap x : Nat} (hS : Ints w a cap [(x : Int)]) : Ints w a cap (wD x) := by
 by_cases hx : x = 0
 ·subst hx
  obtain ⟨b, o, rfl, _⟩ := hS.cells (by decide) 0 0 (by simp)
  exact ints_empty _ _ _ _ hS.max
 ·rw [wD_pos (by omega)]; exact hS
theorem wd_cases (x : Nat) : (x = 0 ∧ wD x = []) ∨ (0 < x ∧ wD x = [(x : Int)]) := by
 by_cases hx : x = 0
 ·exact .inl ⟨hx, by rw [hx]; rfl⟩
 ·exact .inr ⟨by omega, wD_pos (by omega)⟩

theorem rtrim_any (x : Nat) (a : Option Addr) (cap : Nat) (w : World) (hS : Ints w a cap [(x : Int)]) :
  Calls Tryz.prog 127 #[.slice a 1 cap] w fun r w' => r = .returned (.slice a (wD x).length cap) ∧ w = w' := by
 have hcap := hS.le
 have hm0 := hS.max
 simp only [List.length_cons, List.length_nil] at hcap
 obtain ⟨b, o, rfl, hc⟩ := hS.cells (by decide) 0 0 (by simp)
 have hc := hc 0 (.int .i64 x) rfl
 simp only [Nat.mul_one, Nat.add_zero, Nat.zero_mul] at hc
 by_cases hx : x = 0
 ·subst hx
  go_enter Tryz.func127, Tryz.ntmps127
  go_wp2_with fail
  go_loopw [0] (fun v wr => (v = .slice (some ⟨b, o, none⟩) 1 cap ∨ v = .slice (some ⟨b, o, none⟩) 0 cap) ∧ w = wr) (fun v _ => lenV v)
  case atStart => exact ⟨.inl rfl, rfl⟩
  case round =>
   obtain ⟨rfl | rfl, rfl⟩ := hrel
   ·go_wp2_with fail
    exact ⟨⟨.inr rfl, by trivial⟩, by simp [lenV]⟩
   ·go_wp2_with fail
    go_ret
    exact ⟨rfl, rfl⟩
 ·have hxi : ((x : Int) == 0) = false := by simp; omega
  have hw : wD x = [(x : Int)] := wD_pos (by omega)
  rw [hw]
  clear hw
  go_enter Tryz.func127, Tryz.ntmps127
  go_wp2_with fail
  go_loopw [0] (fun v wr => v = .slice (some ⟨b, o, none⟩) 1 cap ∧ w = wr) (fun v _ => 0)
  case atStart => exact ⟨rfl, rfl⟩
  case round =>
   obtain ⟨rfl, rfl⟩ := hrel
   go_wp2_with fail
   go_ret
   exact ⟨rfl, rfl⟩
theorem rtrimE_any (a : Option Addr) (cap : Nat) (w : World) :
  Calls Tryz.prog 127 #[.slice a 0 cap] w fun r w' => r = .returned (.slice a 0 cap) ∧ w = w' := by
 go_enter Tryz.func127, Tryz.ntmps127
 go_wp2_with fail
 go_loopw [0] (fun v wr => v = .slice a 0 cap ∧ w = wr) (fun v _ => 0)
 case atStart => exact ⟨rfl, rfl⟩
 case round =>
  obtain ⟨rfl, rfl⟩ := hrel
  go_wp2_with fail
  go_ret
  exact ⟨rfl, rfl⟩
theorem rsigned_any (x : Nat) (a : Option Addr) (cap : Nat) (w : World) (hS : Ints w a cap [(x : Int)]) :
  Calls Tryz.prog 99 #[.bool false, .slice a 1 cap] w fun r w' => r = .returned (.agg #[.bool false, .slice a (wD x).length cap]) ∧ Below w.heap.size w w' := by
 have CT := fun w (hS : Ints w a cap [(x : Int)]) => rtrim_any x a cap w hS
 have HT := hid CT; clear CT
 have hl := wD_len x
 have hS0 := (SL.nil w).box (.cells #[.bool false, .slice none 0 0] 81)
 go_enter Tryz.func99, Tryz.ntmps99
 go_wp2_with fail
 refine (HT.out _ (hS.alloc _)).mono ?_
 rintro e w1 ⟨rfl, rfl⟩
 go_wp2_with ((with_reducible refine wpList_stoR (us := #[.bool false, .slice a (wD x).length cap]) 0 wU wU (hS0) wU kR wU wU ?_); intro w2 hS2)
 exact bodyPost_ret (results_cell rfl rfl A_integer kR (hS2.blk 0 rfl).1) rfl ⟨rfl, hS2.b⟩
theorem rsignedE_any (a : Option Addr) (cap : Nat) (w : World) :
  Calls Tryz.prog 99 #[.bool false, .slice a 0 cap] w fun r w' => r = .returned (.agg #[.bool false, .slice a 0 cap]) ∧ Below w.heap.size w w' := by
 have CT := fun w => rtrimE_any a cap w
 have HT := hid CT; clear CT
 have hS0 := (SL.nil w).box (.cells #[.bool false, .slice none 0 0] 81)
 go_enter Tryz.func99, Tryz.ntmps99
 go_wp2_with fail
 refine (HT.out _).mono ?_
 rintro e w1 ⟨rfl, rfl⟩
 go_wp2_with ((with_reducible refine wpList_stoR (us := #[.bool false, .slice a 0 cap]) 0 wU wU (hS0) wU kR wU wU ?_); intro w2 hS2)
 exact bodyPost_ret (results_cell rfl rfl A_integer kR (hS2.blk 0 rfl).1) rfl ⟨rfl, hS2.b⟩

theorem SL.ownB {α : Type} {c : α → Value} {sz B n cap : Nat} {e : TypeId} {w0 w : World} {L : List Pc} {a : Option Addr} {l : List α} (h : SL B w0 w L) (i : Nat) (hi : L[i]? = some (pOwn c sz e (.slice a n cap) l)) : ∀ b, a = some b → B ≤ b.block := by
 obtain ⟨b, hP, hB, _⟩ := h.upd i hi
 intro b' e1
 subst e1
 exact hB b'.block (hP.2.symm.trans rfl)
theorem rwhole_any (x : Nat) (w : World) (hx : x < 1000000000) :
  Calls Tryz.prog 51 #[.int .i64 x] w fun r w' => ∃ a cap, r = .returned (.agg #[.bool false, .slice a (wD x).length cap]) ∧ Ints w' a cap (wD x) ∧ (∀ b, a = some b → w.heap.size ≤ b.block) ∧ Below w.heap.size w w' := by
 have CS := fun a cap w hS => rsigned_any x a cap w hS
 have CE := fun a cap w => rsignedE_any a cap w
 have HS := hid CS; have HE := hid CE; clear CS CE
 have hS0 := ((SL.nil w).box (.cells #[.bool false, .slice none 0 0] 81)).nilS (α := Int) (c := cInt) (sz := 1) (e := 3) cIntS
 by_cases h0 : x = 0
 ·subst h0
  go_enter Tryz.func51, Tryz.ntmps51
  go_wp2_with fail
  go_loopw [0, 3, 5] (fun nv wv _ wr => nv = .int .i64 0 ∧ wv = .slice none 0 0 ∧ SL w.heap.size w wr [pBlk w.heap.size (.cells #[.bool false, .slice none 0 0] 81)]) (fun _ _ _ _ => 0)
  case atStart => exact ⟨rfl, rfl, hS0.tail⟩
  case round =>
   obtain ⟨rfl, rfl, hSL⟩ := hrel
   go_wp2_with fail
   refine (HE.out none 0 wr).mono ?_
   rintro e w1 ⟨rfl, b1⟩
   have hSL1 := hSL.mono b1
   go_wp2_with ((with_reducible refine wpList_stoR (us := #[.bool false, .slice none 0 0]) 0 wU wU (hSL1) wU kR wU wU ?_); intro w2 hS2)
   exact bodyPost_ret (results_cell rfl rfl A_integer kR (hS2.blk 0 rfl).1) rfl ⟨none, 0, rfl, ints_nil _, (fun b e => by cases e), hS2.b⟩
 ·have hmod : (x : Int) % 1000000000 = x := Int.emod_eq_of_lt (by omega) (by omega)
  have hdiv : (x : Int) / 1000000000 = 0 := Int.ediv_eq_zero_of_lt (by omega) (by omega)
  have hne : ((x : Int) != 0) = true := by simp; omega
  go_enter Tryz.func51, Tryz.ntmps51
  go_wp2_with fail
  go_loopw [0, 3, 5] (fun nv wv _ wr => ∃ (c : Nat) (l : List Int), nv = .int .i64 c ∧ ((c = x ∧ l = []) ∨ (c = 0 ∧ l = [(x : Int)])) ∧ SL w.heap.size w wr [pOwn cInt 1 3 wv l, pBlk w.heap.size (.cells #[.bool false, .slice none 0 0] 81)]) (fun nv _ _ _ => (intOf nv).toNat)
  case atStart => exact ⟨x, [], rfl, .inl ⟨rfl, rfl⟩, hS0⟩
  case round =>
   clear hS0
   obtain ⟨c, l, rfl, ⟨rfl, rfl⟩ | ⟨rfl, rfl⟩, hSL⟩ := hrel
   ·have hl0 : ([] : List Int).length ≤ 5 := by simp
    go_wp2_with ((with_reducible refine wpList_pushL (y := (c : Int)) 0 E_ints wU wU (hSL) wU cIntO ⟨rfl, rfl⟩ (by first | with_unfolding_all rfl | simp) wU (by first | omega | (simp; omega)) (by first | omega | (simp; omega)) ?_); intro v3 w3 hS3)
    exact ⟨⟨0, _, rfl, .inr ⟨rfl, rfl⟩, hS3⟩, by simp [intOf]; omega⟩
   ·obtain ⟨a, cap, rfl, hR⟩ := hSL.slice 0 rfl
    clear hmod hdiv hne
    go_wp2_with fail
    refine (HS.out a cap wr hR).mono ?_
    rintro e w1 ⟨rfl, b1⟩
    have hSL1 := hSL.mono b1
    go_wp2_with ((with_reducible refine wpList_stoR (us := #[.bool false, .slice a (wD x).length cap]) 1 wU wU (hSL1) wU kR wU wU ?_); intro w2 hS2)
    exact bodyPost_ret (results_cell rfl rfl A_integer kR (hS2.blk 1 rfl).1) rfl ⟨a, cap, rfl, wd_ints (hS2.rd 0 rfl), hS2.ownB 0 rfl, hS2.b⟩

theorem rtext_any (x : Nat) (v : Value) (w : World) (hx : x < 1000000000) (hv : NatR w v x) :
  Calls Tryz.prog 50 #[v] w fun r w' => r = .returned (.string (itoaB x)) ∧ Below w.heap.size w w' := by
 obtain ⟨a, cap, rfl, hR⟩ := hv
 have CD := fun w => rdecimal_any x w (by omega)
 have HD := hid CD; clear CD
 rcases wd_cases x with ⟨h0, hw⟩ | ⟨h0, hw⟩
 ·subst h0
  rw [hw]
  have hz : itoaB ((0 : Nat) : Int) = ⟨#[48]⟩ := by rw [itoaB_nat, decD_small (by decide)]; rfl
  rw [hz]
  clear hz hw hR
  go_enter Tryz.func50, Tryz.ntmps50
  go_wp2_with fail
  go_ret
  exact ⟨rfl, bal (Below.refl _ _) _⟩
 ·rw [hw] at hR ⊢
  clear hw
  have hR1 := hR.alloc (.cells #[.bool false, .slice a 1 cap] 81)
  go_enter Tryz.func50, Tryz.ntmps50
  go_wp2_with (with_reducible refine wpList_idx _ 0 E_ints F_int cInt1 wU wU (hR1) oD oD (fun _ => wU) (fun _ => ?_))
  refine (HD.out _).mono ?_
  rintro e w1 ⟨rfl, rfl⟩
  go_wp2_with fail
  go_loopw [3, 4] (fun sv iv wr => sv = .string (itoaB x) ∧ iv = .int .i64 (-1) ∧ wr = w.alloc (.cells #[.bool false, .slice a 1 cap] 81)) (fun _ _ _ => 0)
  case atStart => exact ⟨rfl, rfl, rfl⟩
  case round =>
   obtain ⟨rfl, rfl, rfl⟩ := hrel
   go_wp2_with fail
   go_ret
   exact ⟨rfl, bal (Below.refl _ _) _⟩

theorem rparse_any (x : Nat) (w : World) (hx : x < 1000000000) :
  Calls Tryz.prog 92 #[.string (itoaB x)] w fun r w' => ∃ a cap, r = .returned (.agg #[.bool false, .slice a (wD x).length cap]) ∧ Ints w' a cap (wD x) ∧ (∀ b, a = some b → w.heap.size ≤ b.block) ∧ Below w.heap.size w w' := by
 obtain ⟨z1, z2⟩ := itoaB_len hx
 have hd := itoaB_dig z2
 have CV := fun w => rvalue_any x w hx
 have CS := fun a cap w hS => rsigned_any x a cap w hS
 have HS := hid CS; clear CS
 obtain ⟨s, hs⟩ : ∃ s, s = itoaB (x : Int) := ⟨_, rfl⟩
 rw [← hs] at z1 z2 hd CV ⊢
 have HV := hid CV
 rw [byteAt_in z2] at hd
 have d1 : (((s[0]'z2).toNat : Int) == 45) = false := by simp; omega
 clear CV hs hd
 have hS0 := ((SL.nil w).box (.cells #[.bool false, .slice none 0 0] 81)).nilS (α := Int) (c := cInt) (sz := 1) (e := 3) cIntS
 go_enter Tryz.func92, Tryz.ntmps92
 go_wp2_with fail
 go_loopw [0, 4] (fun sv wv wr => sv = .string s ∧ wv = .slice none 0 0 ∧ SL w.heap.size w wr [pOwn cInt 1 3 (.slice none 0 0) [], pBlk w.heap.size (.cells #[.bool false, .slice none 0 0] 81)]) (fun _ _ _ => 0)
 case atStart => exact ⟨rfl, rfl, hS0⟩
 case round =>
  obtain ⟨rfl, rfl, hSL⟩ := hrel
  clear hS0
  have hl0 : ([] : List Int).length ≤ 5 := by simp
  go_wp2_with (first | (go_at_call 124; with_reducible refine (HV.out _).mono ?_; rintro e w' ⟨rfl, rfl⟩) | ((with_reducible refine wpList_pushL (y := (x : Int)) 0 E_ints wU wU (hSL) wU cIntO ⟨rfl, rfl⟩ (by first | with_unfolding_all rfl | simp) wU (by first | omega | (simp; omega)) (by first | omega | (simp; omega)) ?_); intro v3 w3 hS3))
  obtain ⟨a, cap, rfl, hR⟩ := hS3.slice 0 rfl
  go_wp2_with fail
  refine (HS.out a cap w3 hR).mono ?_
  rintro e w1 ⟨rfl, b1⟩
  have hSL1 := hS3.mono b1
  go_wp2_with ((with_reducible refine wpList_stoR (us := #[.bool false, .slice a (wD x).length cap]) 1 wU wU (hSL1) wU kR wU wU ?_); intro w2 hS2)
  exact bodyPost_ret (results_cell rfl rfl A_integer kR (hS2.blk 1 rfl).1) rfl ⟨a, cap, rfl, wd_ints (hS2.rd 0 rfl), hS2.ownB 0 rfl, hS2.b⟩

theorem rFromInt_any (x : Nat) (w : World) (hx : x < 1000000000) :
  Calls Tryz.prog 16 #[.int .i64 x] w fun r w' => r = .returned (.string (itoaB x)) ∧ Below w.heap.size w w' := by
 have CW := fun w => rwhole_any x w hx
 have CT := fun v w hv => rtext_any x v w hx hv
 have HW := hid CW; have HT := hid CT; clear CW CT
 go_enter Tryz.func16, Tryz.ntmps16
 go_wp2_with fail
 refine (HW.out w).mono ?_
 rintro e w1 ⟨a1, c1, rfl, h1, _, b1⟩
 go_wp2_with fail
 refine (HT.out _ w1 ⟨a1, c1, rfl, h1⟩).mono ?_
 rintro e w2 ⟨rfl, b2⟩
 go_wp2_with fail
 go_ret
 exact ⟨rfl, bnext b1 b2⟩

def cmpN (x y : Nat) : Int := if x < y then -1 else if y < x then 1 else 0
theorem rcompare_any (x y : Nat) (a b : Option Addr) (cap cap2 : Nat) (w : World) (hy0 : 0 < y) (hS : Ints w a cap (wD x)) (hT : Ints w b cap2 (wD y)) :
  Calls Tryz.prog 125 #[.slice a (wD x).length cap, .slice b (wD y).length cap2] w fun r w' => r = .returned (.int .i64 (cmpN x y)) ∧ Below w.heap.size w w' := by
 have hw2 := wD_pos hy0
 rw [hw2] at hT ⊢
 clear hw2
 rcases wd_cases x with ⟨h0, hw⟩ | ⟨h0, hw⟩
 ·have e : cmpN x y = -1 := by unfold cmpN; rw [if_pos (by omega)]
  rw [hw, e]
  clear hw e hS
  go_enter Tryz.func125, Tryz.ntmps125
  go_wp2_with fail
  go_ret
  exact ⟨rfl, Below.refl _ _⟩
 ·rw [hw] at hS ⊢
  clear hw
  have hx0 : atD 0 [(x : Int)] 0 = x := rfl
  have hy1 : atD 0 [(y : Int)] 0 = y := rfl
  go_enter Tryz.func125, Tryz.ntmps125
  go_wp2_with fail
  go_loopw [5] (fun iv wr => (iv = .int .i64 0 ∨ (iv = .int .i64 (-1) ∧ x = y)) ∧ Below w.heap.size w wr) (fun iv _ => (intOf iv + 1).toNat)
  case atStart => exact ⟨.inl rfl, Below.refl _ _⟩
  case round =>
   obtain ⟨rfl | ⟨rfl, rfl⟩, hbr⟩ := hrel
   ·have hSr := hS.below hbr
    have hTr := hT.below hbr
    go_wp2_with fail
    refine wp_region_quiet_lit kR kR ?_
    repeat (first | ((with_reducible refine wpQD_idx 0 E_ints F_int cInt1 wU wU (hSr) oD oD (fun _ => wU) (fun _ => ?_)); (try simp only [Act.put, pA, pB, pC]); (try simp only [cInt])) | ((with_reducible refine wpQD_idx 0 E_ints F_int cInt1 wU wU (hTr) oD oD (fun _ => wU) (fun _ => ?_)); (try simp only [Act.put, pA, pB, pC]); (try simp only [cInt])) | quiet_step (fail))
    refine wpQuiet_nil ?_
    intro w2 hb2
    replace hb2 := below_drewN hb2
    try rw [hx0, hy1]
    have hSr2 := hSr.below hb2
    have hTr2 := hTr.below hb2
    by_cases h1 : x < y
    ·have e : cmpN x y = -1 := by unfold cmpN; rw [if_pos h1]
     have HE := hid e; clear e
     have h1' : (x : Int) < y := by omega
     go_wp2_with fail
     go_ret
     exact ⟨by rw [HE.out]; rfl, bnext hbr hb2⟩
    ·have h1' : ¬ (x : Int) < y := by omega
     go_wp2_with fail
     refine wp_region_quiet_lit kR kR ?_
     repeat (first | ((with_reducible refine wpQD_idx 0 E_ints F_int cInt1 wU wU (hSr2) oD oD (fun _ => wU) (fun _ => ?_)); (try simp only [Act.put, pA, pB, pC]); (try simp only [cInt])) | ((with_reducible refine wpQD_idx 0 E_ints F_int cInt1 wU wU (hTr2) oD oD (fun _ => wU) (fun _ => ?_)); (try simp only [Act.put, pA, pB, pC]); (try simp only [cInt])) | quiet_step (fail))
     refine wpQuiet_nil ?_
     intro w3 hb3
     replace hb3 := below_drewN hb3
     try rw [hx0, hy1]
     have b3 := bnext hbr (bnext hb2 hb3)
     by_cases h2 : y < x
     ·have e : cmpN x y = 1 := by unfold cmpN; rw [if_neg h1, if_pos h2]
      have HE := hid e; clear e
      have h2' : (y : Int) < x := by omega
      go_wp2_with fail
      go_ret
      exact ⟨by rw [HE.out]; rfl, b3⟩
     ·have h2' : ¬ (y : Int) < x := by omega
      go_wp2_with fail
      exact ⟨⟨.inr ⟨rfl, by omega⟩, b3⟩, by simp [intOf]⟩
   ·have e : cmpN x x = 0 := by unfold cmpN; rw [if_neg (by omega), if_neg (by omega)]
    have HE := hid e; clear e
    go_wp2_with fail
    go_ret
    exact ⟨by rw [HE.out]; rfl, hbr⟩

theorem rdivDigit_any (x y : Nat) (a : Option Addr) (cap : Nat) (w : World) (hx : x < 1000000000) (hy : y < 1000000000) (hy0 : 0 < y) (hS : Ints w a cap [(x : Int)]) :
  Calls Tryz.prog 126 #[.slice a 1 cap, .int .i64 y] w fun r w' => ∃ a1 c1, r = .returned (.tuple #[.slice a1 (wD (x / y)).length c1, .int .i64 ((x % y : Nat) : Int)]) ∧ Ints w' a1 c1 (wD (x / y)) ∧ Below w.heap.size w w' := by
 have CT := fun a cap w hS => rtrim_any (x / y) a cap w hS
 have HT := hid CT; clear CT
 have hS0 := SL.nil w
 have hx0 : atD 0 [(x : Int)] 0 = x := rfl
 have q1 : ((x / y : Nat) : Int) = (x : Int) / y := Int.natCast_ediv x y
 have q2 : ((x % y : Nat) : Int) = (x : Int) % y := Int.natCast_emod x y
 have b1 : 0 ≤ (x : Int) / y := Int.ediv_nonneg (by omega) (by omega)
 have b2 : (x : Int) / y ≤ x := Int.ediv_le_self _ (by omega)
 have b3 : 0 ≤ (x : Int) % y := Int.emod_nonneg _ (by omega)
 have b4 : (x : Int) % y < y := Int.emod_lt_of_pos _ (by omega)
 have hw1 : IntKind.i64.wrap ((x : Int) / y) = (x : Int) / y := IntWalk.i64_in _ (by omega)
 have hw2 : IntKind.i64.wrap ((x : Int) % y) = (x : Int) % y := IntWalk.i64_in _ (by omega)
 have q3 : (x : Int).tdiv y = (x : Int) / y := Int.tdiv_eq_ediv_of_nonneg (by omega)
 have q4 : (x : Int).tmod y = (x : Int) % y := Int.tmod_eq_emod_of_nonneg (by omega)
 have hq : x / y ≤ x := Nat.div_le_self _ _
 have hr : x % y < y := Nat.mod_lt _ hy0
 have hyn : ¬ (y : Int) = 0 := by omega
 have Q1 := hid q1; have Q2 := hid q2
 rw [q2]
 clear q1 q2
 go_enter Tryz.func126, Tryz.ntmps126
 go_wp2_with ((with_reducible refine wpList_makeL (c := cInt) (1) (0) E_ints cInt1 wU wU (by omega) (by omega) (hS0) ?_); intro ad w1 hS1)
 go_loopw [7, 8, 9] (fun rv iv _ wr => ((rv = .int .i64 0 ∧ iv = .int .i64 0 ∧ SL w.heap.size w wr [pOwn cInt 1 3 (.slice ad 1 1) [0]]) ∨ (rv = .int .i64 ((x : Int) % y) ∧ iv = .int .i64 (-1) ∧ SL w.heap.size w wr [pOwn cInt 1 3 (.slice ad 1 1) [(x : Int) / y]]))) (fun _ iv _ _ => (intOf iv + 1).toNat)
 case atStart => exact .inl ⟨rfl, rfl, hS1⟩
 case round =>
  rcases hrel with ⟨rfl, rfl, hSL⟩ | ⟨rfl, rfl, hSL⟩
  ·have hSr := hS.below hSL.b
   go_wp2_with (first | ((with_reducible refine wpList_idx _ 0 E_ints F_int cInt1 wU wU (hSr) oD oD (fun _ => wU) (fun _ => ?_)); try rw [hx0]) | ((with_reducible refine wpList_storeL (u := ((x : Int) / y)) 0 E_ints cInt1 (sto_int) wU wU (hSL) wU (by first | omega | (simp; done) | (simp; omega)) (by first | omega | (simp; done) | (simp; omega)) (fun _ => wU) (fun _ => wU) ?_); intro _ w3 hS3))
   exact ⟨.inr ⟨rfl, rfl, hS3⟩, by simp [intOf]⟩
  ·have hR := hSL.rd 0 rfl
   rw [← Q1.out] at hR
   clear q3 q4 hw1 hw2
   go_wp2_with fail
   refine (HT.out ad 1 wr hR).mono ?_
   rintro e w1 ⟨rfl, rfl⟩
   go_wp2_with fail
   go_ret2
   exact ⟨_, _, rfl, wd_ints hR, hSL.b⟩
end Go.Proofs.YtndmeaoidihikaaGreatDoor

namespace Go.Proofs.YtndmeaoidihikaaGreatDoor
open Go.RowKit
set_option maxHeartbeats 2000000
set_option maxRecDepth 100000

theorem rdivDigits_any (x y : Nat) (a b : Option Addr) (cap cap2 : Nat) (w : World) (hx : x < 1000000000) (hy : y < 1000000000) (hy0 : 0 < y) (hS : Ints w a cap (wD x)) (hT : Ints w b cap2 (wD y)) :
  Calls Tryz.prog 93 #[.slice a (wD x).length cap, .slice b (wD y).length cap2] w fun r w' => ∃ a1 c1 a2 c2, r = .returned (.tuple #[.slice a1 (wD (x / y)).length c1, .slice a2 (wD (x % y)).length c2]) ∧ Ints w' a1 c1 (wD (x / y)) ∧ Ints w' a2 c2 (wD (x % y)) ∧ Below w.heap.size w w' := by
 have CC := rcompare_any x y a b cap cap2 w hy0 hS hT
 by_cases h1 : x < y
 ·have e0 : cmpN x y = -1 := by unfold cmpN; rw [if_pos h1]
  have e1 : x / y = 0 := Nat.div_eq_of_lt h1
  have e2 : x % y = x := Nat.mod_eq_of_lt h1
  rw [e0] at CC
  rw [e1, e2]
  have HC := hid CC
  clear e0 e1 e2 CC
  go_enter Tryz.func93, Tryz.ntmps93
  go_wp2_with fail
  refine HC.out.mono ?_
  rintro e w1 ⟨rfl, b1⟩
  go_wp2_with fail
  go_ret2
  exact ⟨none, 0, a, cap, rfl, ints_nil _, hS.below b1, b1⟩
 ·have hc : 0 ≤ cmpN x y := by unfold cmpN; rw [if_neg h1]; split <;> omega
  have hxw := wD_pos (show 0 < x by omega)
  have hyw := wD_pos hy0
  rw [hxw] at hS CC ⊢
  rw [hyw] at hT CC ⊢
  have hy1 : atD 0 [(y : Int)] 0 = y := rfl
  have CD := fun w hS => rdivDigit_any x y a cap w hx hy hy0 hS
  have CT := fun a cap w hS => rtrim_any (x % y) a cap w hS
  obtain ⟨k, hk⟩ : ∃ k, k = cmpN x y := ⟨_, rfl⟩
  rw [← hk] at CC hc
  have HC := hid CC; have HD := hid CD; have HT := hid CT
  clear CC CD CT hk hxw hyw
  go_enter Tryz.func93, Tryz.ntmps93
  go_wp2_with fail
  refine HC.out.mono ?_
  rintro e w1 ⟨rfl, b1⟩
  have hT1 := hT.below b1
  go_wp2_with ((with_reducible refine wpList_idx _ 0 E_ints F_int cInt1 wU wU (hT1) oD oD (fun _ => wU) (fun _ => ?_)); try rw [hy1])
  refine (HD.out w1 (hS.below b1)).mono ?_
  rintro e w2 ⟨a2, c2, rfl, hq, b2⟩
  have hR := reps_new1 (w := w2) (e := 3) cIntS ((x % y : Nat) : Int) #[.int .i64 ((x % y : Nat) : Int)] (0, 0) rfl rfl
  go_wp2_with fail
  refine (HT.out _ _ _ hR).mono ?_
  rintro e w3 ⟨rfl, rfl⟩
  go_wp2_with fail
  go_ret2
  exact ⟨_, _, _, _, rfl, hq.alloc _, wd_ints hR, bal (bnext b1 b2) _⟩

theorem rcommon_any (x y : Nat) (a b : Option Addr) (cap cap2 : Nat) (w : World) (hx : x < 1000000000) (hy : y < 1000000000) (hS : Ints w a cap (wD x)) (hT : Ints w b cap2 (wD y)) :
  Calls Tryz.prog 47 #[.slice a (wD x).length cap, .slice b (wD y).length cap2] w fun r w' => ∃ a1 c1, r = .returned (.slice a1 (wD (Nat.gcd x y)).length c1) ∧ Ints w' a1 c1 (wD (Nat.gcd x y)) ∧ Below w.heap.size w w' := by
 go_enter Tryz.func47, Tryz.ntmps47
 go_wp2_with fail
 go_loopg [0, 1, 5, 6] y (fun g va vb _ _ wr => ∃ (p q : Nat) (a b : Option Addr) (ca cb : Nat), g = q ∧ va = .slice a (wD p).length ca ∧ vb = .slice b (wD q).length cb ∧ Ints wr a ca (wD p) ∧ Ints wr b cb (wD q) ∧ p < 1000000000 ∧ q < 1000000000 ∧ Aside (Nat.gcd p q = Nat.gcd x y) ∧ Below w.heap.size w wr)
 case atStart => exact ⟨x, y, a, b, cap, cap2, rfl, rfl, rfl, hS, hT, hx, hy, rfl, Below.refl _ _⟩
 case round =>
  obtain ⟨p, q, a, b, ca, cb, rfl, rfl, rfl, hSr, hTr, hp, hq, HG, hbr⟩ := hrel
  by_cases h0 : gk = 0
  ·subst h0
   have e : p = Nat.gcd x y := by rw [← HG.out, Nat.gcd_zero_right]
   have HE := hid e
   have hl : (wD 0).length ≤ 0 := Nat.le_refl _
   clear e
   go_wp2_with fail
   go_ret
   rw [← HE.out]
   exact ⟨a, ca, rfl, hSr, hbr⟩
  ·have hl : 0 < (wD gk).length := by rw [wD_pos (by omega)]; simp
   have CD := fun w hS hT => rdivDigits_any p gk a b ca cb w hp hq (by omega) hS hT
   have HD := hid CD
   clear CD
   go_wp2_with fail
   refine (HD.out wr hSr hTr).mono ?_
   rintro e w2 ⟨a1, c1, a2, c2, rfl, h1, h2, b2⟩
   have hm : p % gk < gk := Nat.mod_lt _ (by omega)
   go_wp2_with fail
   go_roundg (p % gk)
   case measure => exact hm
   case rel => exact ⟨gk, p % gk, b, a2, cb, c2, rfl, rfl, rfl, hTr.below b2, h2, hq, by omega, by show Nat.gcd gk (p % gk) = _; rw [← HG.out, Nat.gcd_comm gk, ← Nat.gcd_rec, Nat.gcd_comm], bnext hbr b2⟩

theorem rparts_any (x : Nat) (w : World) (hx : x < 1000000000) :
  Calls Tryz.prog 46 #[.string (itoaB x)] w fun r w' => ∃ a c b d, r = .returned (.tuple #[.agg #[.bool false, .slice a (wD x).length c], .agg #[.bool false, .slice b (wD 1).length d]]) ∧ Ints w' a c (wD x) ∧ Ints w' b d (wD 1) ∧ Below w.heap.size w w' := by
 have hsl := textQ_slash x 1
 rw [textQ_one] at hsl
 have hz := (itoaB_len hx).1
 have CP := fun w => rparse_any x w hx
 have CW := fun w => rwhole_any 1 w (by decide)
 obtain ⟨s, hs⟩ : ∃ s, s = itoaB (x : Int) := ⟨_, rfl⟩
 rw [← hs] at hsl hz CP ⊢
 have CS := fun w => rslash_any s s.size w hsl (by omega)
 have HP := hid CP; have HW := hid CW; have HS := hid CS
 clear CP CW CS hs hsl
 have hS0 := ((SL.nil w).box (.cells #[.bool false, .slice none 0 0] 81)).box (.cells #[.bool false, .slice none 0 0] 81)
 simp only [World.size_alloc] at hS0
 go_enter Tryz.func46, Tryz.ntmps46
 go_wp2_with fail
 refine (HS.out _).mono ?_
 rintro e w' ⟨rfl, rfl⟩
 go_wp2_with fail
 refine (HP.out _).mono ?_
 rintro e w1 ⟨a, c, rfl, h1, f1, b1⟩
 have hS1 := hS0.newRd b1 h1 (by decide) f1
 go_wp2_with fail
 refine (HW.out _).mono ?_
 rintro e w2 ⟨b, d, rfl, h2, f2, b2⟩
 have hS2 := hS1.newRd b2 h2 (by decide) f2
 clear hS0 hS1
 go_wp2_with (first | ((with_reducible refine wpList_stoR (us := #[.bool false, .slice a (wD x).length c]) 3 wU wU (hS2) wU kR wU wU ?_); intro w3 hS3) | ((with_reducible refine wpList_stoR (us := #[.bool false, .slice b (wD 1).length d]) 2 wU wU (hS3) wU kR wU wU ?_); intro w4 hS4))
 exact bodyPost_ret (results_cell2 rfl rfl rfl A_integer kR kR (hS4.blk 3 rfl).1 (hS4.blk 2 rfl).1) rfl ⟨a, c, b, d, rfl, hS4.rdR 1 rfl, hS4.rdR 0 rfl, hS4.b⟩

theorem rfraction_any (x y : Nat) (a b : Option Addr) (c d : Nat) (w : World) (hx : x < 1000000000) (hy : y < 1000000000) (hx0 : 0 < x) (hy0 : 0 < y) (hS : Ints w a c (wD x)) (hT : Ints w b d (wD y)) :
  Calls Tryz.prog 96 #[.agg #[.bool false, .slice a (wD x).length c], .agg #[.bool false, .slice b (wD y).length d]] w fun r w' => r = .returned (.string (textQ (x / Nat.gcd x y) (y / Nat.gcd x y))) ∧ Below w.heap.size w w' := by
 have hg0 : 0 < Nat.gcd x y := Nat.gcd_pos_of_pos_left _ hx0
 have hgx : Nat.gcd x y ≤ x := Nat.gcd_le_left _ hx0
 have CC := fun w hS hT => rcommon_any x y a b c d w hx hy hS hT
 obtain ⟨g, hg⟩ : ∃ g, g = Nat.gcd x y := ⟨_, rfl⟩
 rw [← hg] at hg0 hgx CC ⊢
 have hp0 : 0 < x / g := by rw [hg]; exact Nat.div_pos (Nat.gcd_le_left _ hx0) (Nat.gcd_pos_of_pos_left _ hx0)
 have hq0 : 0 < y / g := by rw [hg]; exact Nat.div_pos (Nat.gcd_le_right _ hy0) (Nat.gcd_pos_of_pos_left _ hx0)
 have hp1 : x / g ≤ x := Nat.div_le_self _ _
 have hq1 : y / g ≤ y := Nat.div_le_self _ _
 have CD1 := fun a1 c1 w hS hT => rdivDigits_any x g a a1 c c1 w hx (by omega) hg0 hS hT
 have CD2 := fun a1 c1 w hS hT => rdivDigits_any y g b a1 d c1 w hy (by omega) hg0 hS hT
 obtain ⟨p, hp⟩ : ∃ p, p = x / g := ⟨_, rfl⟩
 obtain ⟨q, hq⟩ : ∃ q, q = y / g := ⟨_, rfl⟩
 rw [← hp] at hp0 hp1 CD1 ⊢
 rw [← hq] at hq0 hq1 CD2 ⊢
 have hpw := wD_pos hp0
 have hqw := wD_pos hq0
 rw [hpw] at CD1
 rw [hqw] at CD2
 have CG1 := fun a c w hS => rsigned_any p a c w hS
 have CG2 := fun a c w hS => rsigned_any q a c w hS
 have CT1 := fun v w hv => rtext_any p v w (by omega) hv
 have CT2 := fun v w hv => rtext_any q v w (by omega) hv
 have hzp := (itoaB_len (show p < 1000000000 by omega)).1
 have hzq := (itoaB_len (show q < 1000000000 by omega)).1
 have HC := hid CC; have HD1 := hid CD1; have HD2 := hid CD2; have HG1 := hid CG1; have HG2 := hid CG2; have HT1 := hid CT1; have HT2 := hid CT2
 clear CC CD1 CD2 CG1 CG2 CT1 CT2 hpw hqw hp hq hg
 have hS0 := ((SL.nil w).box (.cells #[.bool false, .slice a (wD x).length c] 81)).box (.cells #[.bool false, .slice b (wD y).length d] 81)
 simp only [World.size_alloc] at hS0
 go_enter Tryz.func96, Tryz.ntmps96
 go_wp2_with fail
 refine (HC.out _ (hS.below hS0.b) (hT.below hS0.b)).mono ?_
 rintro e w1 ⟨a1, c1, rfl, h1, b1⟩
 have hS1 := hS0.mono b1
 have k1 := hS1.cell 1 rfl 1 rfl
 go_wp2_with fail
 refine (HD1.out a1 c1 w1 (hS.below hS1.b) h1).mono ?_
 rintro e w2 ⟨a2, c2, a3, c3, rfl, h2, h3, b2⟩
 have hS2 := hS1.mono b2
 have h12 := h1.below b2
 have k2 := hS2.cell 0 rfl 1 rfl
 clear k1 h3
 go_wp2_with fail
 refine (HD2.out a1 c1 w2 (hT.below hS2.b) h12).mono ?_
 rintro e w3 ⟨a4, c4, a5, c5, rfl, h4, h5, b3⟩
 have hS3 := hS2.mono b3
 have k3 := hS3.cell 1 rfl 0 rfl
 clear k2 h5
 go_wp2_with fail
 refine (HG1.out a2 c2 w3 (h2.below b3)).mono ?_
 rintro e w4 ⟨rfl, b4⟩
 go_wp2_with fail
 refine (HT1.out _ w4 ⟨a2, c2, rfl, wd_ints ((h2.below b3).below b4)⟩).mono ?_
 rintro e w5 ⟨rfl, b5⟩
 have hS5 := (hS3.mono b4).mono b5
 have h45 := (h4.below b4).below b5
 clear k3 h2 h12 h1 h4
 have hq1' : atD 0 [(q : Int)] 0 = q := rfl
 by_cases e1 : q = 1
 ·subst e1
  have HTQ := hid (textQ_one p)
  go_wp2_with ((with_reducible refine wpList_idxG 0 E_ints F_int cInt1 wU wU (h45) (rfl) oD oD (fun _ => wU) wU (fun _ => wU) (fun _ => ?_)); try rw [hq1'])
  go_ret
  exact ⟨by rw [HTQ.out]; rfl, hS5.b⟩
 ·have hd : ((q : Int) == 1) = false := by simp; omega
  have ht : textQ p q = itoaB (p : Int) ++ ⟨#[47]⟩ ++ itoaB (q : Int) := by unfold textQ; rw [if_neg e1]
  have HTQ := hid ht; clear ht
  go_wp2_with ((with_reducible refine wpList_idxG 0 E_ints F_int cInt1 wU wU (h45) (rfl) oD oD (fun _ => wU) wU (fun _ => wU) (fun _ => ?_)); try rw [hq1'])
  refine (HG2.out a4 c4 w5 h45).mono ?_
  rintro e w6 ⟨rfl, b6⟩
  go_wp2_with fail
  refine (HT2.out _ w6 ⟨a4, c4, rfl, wd_ints (h45.below b6)⟩).mono ?_
  rintro e w7 ⟨rfl, b7⟩
  go_wp2_with fail
  go_ret
  exact ⟨by rw [HTQ.out]; rfl, ((hS5.mono b6).mono b7).b⟩
end Go.Proofs.YtndmeaoidihikaaGreatDoor

namespace Go.Proofs.YtndmeaoidihikaaGreatDoor
open Go.RowKit
set_option maxHeartbeats 2000000
set_option maxRecDepth 100000

theorem rReciprocal_any (x : Nat) (w : World) (hx : x < 1000000000) (h0 : 0 < x) :
  Calls Tryz.prog 49 #[.string (itoaB x)] w fun r w' => r = .returned (.string (textQ 1 x)) ∧ Below w.heap.size w w' := by
 have CP := fun w => rparts_any x w hx
 have CF := fun a b c d w hS hT => rfraction_any 1 x a b c d w (by decide) hx (by decide) h0 hS hT
 rw [Nat.gcd_one_left, Nat.div_one, Nat.div_one] at CF
 have HP := hid CP; have HF := hid CF
 clear CP CF
 go_enter Tryz.func49, Tryz.ntmps49
 go_wp2_with fail
 refine (HP.out w).mono ?_
 rintro e w1 ⟨a, c, b, d, rfl, h1, h2, b1⟩
 have hS0 := ((SL.nil w1).box (.cells #[.bool false, .slice none 0 0] 81)).box (.cells #[.bool false, .slice none 0 0] 81)
 simp only [World.size_alloc] at hS0
 go_wp2_with (first | ((with_reducible refine wpList_stoR (us := #[.bool false, .slice a (wD x).length c]) 1 wU wU (hS0) wU kR wU wU ?_); intro w3 hS3) | ((with_reducible refine wpList_stoR (us := #[.bool false, .slice b (wD 1).length d]) 0 wU wU (hS3) wU kR wU wU ?_); intro w4 hS4) | (with_reducible refine wpList_ldS (n := 2) (us := #[.bool false, .slice b (wD 1).length d]) A_integer kR wU wU (hS4.blk 0 rfl).1 wU wU ?_) | (with_reducible refine wpList_ldS (n := 2) (us := #[.bool false, .slice a (wD x).length c]) A_integer kR wU wU (hS4.blk 1 rfl).1 wU wU ?_))
 refine (HF.out b a d c w4 (h2.below hS4.b) (h1.below hS4.b)).mono ?_
 rintro e w5 ⟨rfl, b5⟩
 go_wp2_with fail
 go_ret
 exact ⟨rfl, bnext b1 (bnext hS4.b b5)⟩

theorem rgcdL_any (x y : Int) (w : World) (hx : 0 ≤ x) (hx2 : x ≤ 4611686018427387904) (hy : 0 ≤ y) (hy2 : y ≤ 4611686018427387904) :
  Calls Tryz.prog 130 #[.int .i64 x, .int .i64 y] w fun r w' => r = .returned (.int .i64 (Int.gcd x y)) ∧ Below w.heap.size w w' := by
 go_enter Tryz.func130, Tryz.ntmps130
 go_wp2
 go_loopw [0, 1] (fun p q wr => ∃ a b : Int, p = .int .i64 a ∧ q = .int .i64 b ∧ 0 ≤ a ∧ a ≤ 4611686018427387904 ∧ 0 ≤ b ∧ b ≤ 4611686018427387904 ∧ Int.gcd a b = Int.gcd x y ∧ Below w.heap.size w wr) (fun _ q _ => (intOf q).toNat)
 case atStart => exact ⟨x, y, rfl, rfl, hx, hx2, hy, hy2, rfl, Below.refl _ _⟩
 case round =>
  obtain ⟨a, b, rfl, rfl, ha, ha2, hb, hb2, hg, hbr⟩ := hrel
  have HG := hid hg; clear hg
  by_cases hlt : 0 < b
  ·have hm0 := Int.emod_nonneg a (by omega : b ≠ 0)
   have hm1 := Int.emod_lt_of_pos a hlt
   have hne : ¬ b = 0 := by omega
   have hwr : IntKind.i64.wrap (a.tmod b) = a % b := by rw [Int.tmod_eq_emod_of_nonneg ha]; exact IntWalk.i64_in _ (by omega)
   go_wp2_with fail
   refine wp_region_quiet_lit kR kR ?_
   repeat (first | fail | quiet_step (fail))
   refine wpQuiet_nil ?_
   intro w2 hb2
   replace hb2 := below_drewN hb2
   clear hwr
   go_wp2_with fail
   rw [Int.tmod_eq_emod_of_nonneg (b := b) ha]
   refine ⟨⟨b, a % b, rfl, rfl, by omega, by omega, by omega, by omega, ?_, bnext hbr hb2⟩, by simp [intOf]; omega⟩
   rw [← HG.out, gcd_step ha hb]
  ·have : b = 0 := by omega
   subst this
   have hfin : a = Int.gcd x y := by
    rw [← HG.out, Int.gcd_zero]; omega
   have HF := hid hfin; clear hfin
   go_wp2_with fail
   go_ret
   exact ⟨by rw [← HF.out]; rfl, hbr⟩

theorem rOf_any (x y : Nat) (w : World) (hx : x < 1000000000000000000) (hy : y < 1000000000000000000) (hy0 : 0 < y) :
  Calls Tryz.prog 95 #[.int .i64 x, .int .i64 y] w fun r w' => r = .returned (.string (textQ (x / Nat.gcd x y) (y / Nat.gcd x y))) ∧ Below w.heap.size w w' := by
 have CG := fun w => rgcdL_any x y w (by omega) (by omega) (by omega) (by omega)
 have eg : ((Int.gcd (x : Int) (y : Int) : Nat) : Int) = ((Nat.gcd x y : Nat) : Int) := rfl
 rw [eg] at CG
 have hg0 : 0 < Nat.gcd x y := Nat.gcd_pos_of_pos_right _ hy0
 have hgy : Nat.gcd x y ≤ y := Nat.gcd_le_right _ hy0
 have hq0 : 0 < y / Nat.gcd x y := Nat.div_pos hgy hg0
 obtain ⟨g, hg⟩ : ∃ g, g = Nat.gcd x y := ⟨_, rfl⟩
 rw [← hg] at CG hg0 hgy hq0 ⊢
 have hp1 : x / g ≤ x := Nat.div_le_self _ _
 have hq1 : y / g ≤ y := Nat.div_le_self _ _
 have tp : (x : Int).tdiv g = (x : Int) / g := Int.tdiv_eq_ediv_of_nonneg (by omega)
 have tq : (y : Int).tdiv g = (y : Int) / g := Int.tdiv_eq_ediv_of_nonneg (by omega)
 have ep : (x : Int) / g = ((x / g : Nat) : Int) := rfl
 have eq : (y : Int) / g = ((y / g : Nat) : Int) := rfl
 obtain ⟨p, hp⟩ : ∃ p, p = x / g := ⟨_, rfl⟩
 obtain ⟨q, hq⟩ : ∃ q, q = y / g := ⟨_, rfl⟩
 rw [← hp] at ep hp1 ⊢
 rw [← hq] at eq hq1 hq0 ⊢
 have ewp : IntKind.i64.wrap ((x : Int) / g) = (x : Int) / g := by rw [ep]; exact IntWalk.i64_in _ (by omega)
 have ewq : IntKind.i64.wrap ((y : Int) / g) = (y : Int) / g := by rw [eq]; exact IntWalk.i64_in _ (by omega)
 have CP := fun w => rdecimal_any p w (by omega)
 have CQ := fun w => rdecimal_any q w (by omega)
 have hzp : (itoaB (p : Int)).size ≤ 18 := by have := decD_len 17 p (by omega); rw [itoaB_bT, bT_size]; exact this
 have hzq : (itoaB (q : Int)).size ≤ 18 := by have := decD_len 17 q (by omega); rw [itoaB_bT, bT_size]; exact this
 have hm1 : max (x : Int) (-(x : Int)) = x := by omega
 have hm2 : max (p : Int) (-(p : Int)) = p := by omega
 have hn1 : ¬ (x : Int) < -x := by omega
 have hn2 : ¬ (p : Int) < -p := by omega
 have hgn : ¬ (g : Int) = 0 := by omega
 have hgn2 : ¬ g = 0 := by omega
 have HG := hid CG; have HP := hid CP; have HQ := hid CQ; have EP := hid ep; have EQ := hid eq
 clear CG CP CQ ep eq hp hq hg eg
 have he : (⟨#[]⟩ : ByteArray) ++ itoaB (p : Int) = itoaB (p : Int) := by rw [itoaB_bT, show (⟨#[]⟩ : ByteArray) = bT [] from rfl, bT_app]; rfl
 go_enter Tryz.func95, Tryz.ntmps95
 go_wp2_with fail
 refine (HG.out _).mono ?_
 rintro e w1 ⟨rfl, b1⟩
 go_wp2_with fail
 refine wp_region_quiet_lit kR kR ?_
 repeat (first  | quiet_step (fail))
 refine wpQuiet_nil ?_
 intro w2 b2
 replace b2 := below_drewN b2
 clear ewp ewq tp tq
 rw [EP.out, EQ.out]
 have t2 := bnext b1 b2
 go_wp2_with fail
 refine (HP.out _).mono ?_
 rintro e w' ⟨rfl, rfl⟩
 by_cases h1 : q = 1
 ·subst h1
  have HTQ := hid (textQ_one p)
  go_wp2_with fail
  go_ret
  exact ⟨by rw [HTQ.out]; first | rfl | (rw [← he]; rfl), t2⟩
 ·have h1' : (1 : Int) < q := by omega
  have ht : textQ p q = itoaB (p : Int) ++ ⟨#[47]⟩ ++ itoaB (q : Int) := by unfold textQ; rw [if_neg h1]
  have HTQ := hid ht; clear ht
  go_wp2_with fail
  refine (HQ.out _).mono ?_
  rintro e w' ⟨rfl, rfl⟩
  go_wp2_with fail
  go_ret
  exact ⟨by rw [HTQ.out]; first | rfl | (rw [← he]; rfl), t2⟩

theorem rMul_any (p q r s : Nat) (w : World) (hp : p < 1000000000) (hq : q < 1000000000) (hr : r < 1000000000) (hs : s < 1000000000) (hq0 : 0 < q) (hs0 : 0 < s) :
  Calls Tryz.prog 48 #[.string (textQ p q), .string (textQ r s)] w fun e w' => e = .returned (.string (textQ (p * r / Nat.gcd (p * r) (q * s)) (q * s / Nat.gcd (p * r) (q * s)))) ∧ Below w.heap.size w w' := by
 have h1 : p * r < 1000000000000000000 := by
  have := Nat.mul_le_mul (show p ≤ 999999999 by omega) (show r ≤ 999999999 by omega); omega
 have h2 : q * s < 1000000000000000000 := by
  have := Nat.mul_le_mul (show q ≤ 999999999 by omega) (show s ≤ 999999999 by omega); omega
 have h3 : 0 < q * s := Nat.mul_pos hq0 hs0
 have CA := fun w => rquick_any p q w hp hq
 have CB := fun w => rquick_any r s w hr hs
 have CO := fun w => rOf_any (p * r) (q * s) w h1 h2 h3
 have e1 : ((p * r : Nat) : Int) = (p : Int) * r := Int.natCast_mul _ _
 have e2 : ((q * s : Nat) : Int) = (q : Int) * s := Int.natCast_mul _ _
 rw [e1, e2] at CO
 have b1 : 0 ≤ (p : Int) * r ∧ (p : Int) * r < 1000000000000000000 := by rw [← e1]; omega
 have b2 : 0 ≤ (q : Int) * s ∧ (q : Int) * s < 1000000000000000000 := by rw [← e2]; omega
 have w1 : IntKind.i64.wrap ((p : Int) * r) = (p : Int) * r := IntWalk.i64_in _ (by omega)
 have w2 : IntKind.i64.wrap ((q : Int) * s) = (q : Int) * s := IntWalk.i64_in _ (by omega)
 have HA := hid CA; have HB := hid CB; have HO := hid CO
 clear CA CB CO e1 e2 b1 b2
 go_enter Tryz.func48, Tryz.ntmps48
 go_wp2_with fail
 refine (HA.out w).mono ?_
 rintro e w' ⟨rfl, rfl⟩
 go_wp2_with fail
 refine (HB.out w).mono ?_
 rintro e w' ⟨rfl, rfl⟩
 go_wp2_with fail
 refine (HO.out w).mono ?_
 rintro e w5 ⟨rfl, b5⟩
 go_wp2_with fail
 go_ret
 exact ⟨rfl, b5⟩
theorem rDiv_any (p n : Nat) (w : World) (hp : p < 1000000000) (hn : n < 1000000000) (hn0 : 0 < n) :
  Calls Tryz.prog 15 #[.string (itoaB p), .string (itoaB n)] w fun e w' => e = .returned (.string (textQ (p / Nat.gcd p n) (n / Nat.gcd p n))) ∧ Below w.heap.size w w' := by
 have CR := fun w => rReciprocal_any n w hn hn0
 have CM := fun w => rMul_any p 1 1 n w hp (by omega) (by omega) hn (by omega) hn0
 rw [textQ_one, Nat.mul_one, Nat.one_mul] at CM
 have HR := hid CR; have HM := hid CM; clear CR CM
 go_enter Tryz.func15, Tryz.ntmps15
 go_wp2_with fail
 refine (HR.out w).mono ?_
 rintro e w1 ⟨rfl, b1⟩
 go_wp2_with fail
 refine (HM.out w1).mono ?_
 rintro e w2 ⟨rfl, b2⟩
 go_wp2_with fail
 go_ret
 exact ⟨rfl, bnext b1 b2⟩
end Go.Proofs.YtndmeaoidihikaaGreatDoor

namespace Go.Proofs.YtndmeaoidihikaaGreatDoor
open Go.RowKit
set_option maxHeartbeats 2000000
set_option maxRecDepth 100000

end Go.Proofs.YtndmeaoidihikaaGreatDoor

namespace Go.Proofs.YtndmeaoidihikaaGreatDoor
open Go.RowKit
set_option maxHeartbeats 2000000
set_option maxRecDepth 100000

theorem itoaB_first {p : Nat} (h : 0 < p) : 49 ≤ byteAt (itoaB (p : Int)) 0 ∧ byteAt (itoaB (p : Int)) 0 ≤ 57 := by
 obtain ⟨b, r, e, h1, h2⟩ := decD_first h
 rw [itoaB_bT, bT_at (k := 0) (by rw [e]; simp)]
 simp only [e, List.getElem_cons_zero]
 omega
theorem slashAt_none {s : ByteArray} (h : ∀ j, j < s.size → 48 ≤ byteAt s j ∧ byteAt s j ≤ 57) : SlashAt s s.size :=
 ⟨Nat.le_refl _, fun j hj => by have := h j hj; omega, fun h => absurd h (Nat.lt_irrefl _)⟩

theorem rDigits_any (s : ByteArray) (w : World) (hz : s.size ≤ 1048576) (hd : ∀ k, k < s.size → 48 ≤ byteAt s k ∧ byteAt s k ≤ 57) :
  Calls Tryz.prog 91 #[.string s] w fun r w' => r = .returned (.bool true) ∧ w = w' := by
 have HD := hid hd; clear hd
 go_enter Tryz.func91, Tryz.ntmps91
 go_wp2_with fail
 go_loopw [3] (fun i wr => ∃ k : Nat, k ≤ s.size ∧ i = .int .i64 k ∧ w = wr) (fun i _ => s.size - (intOf i).toNat)
 case atStart => exact ⟨0, by omega, rfl, rfl⟩
 case round =>
  obtain ⟨k, hk, rfl, rfl⟩ := hrel
  by_cases hlt : k < s.size
  ·have hb := HD.out k hlt
   rw [byteAt_in hlt] at hb
   have d1 : ¬ (((s[k]'hlt).toNat : Int) < 48) := by omega
   have d2 : ¬ (57 < ((s[k]'hlt).toNat : Int)) := by omega
   go_wp2_with fail
   exact ⟨⟨k + 1, by omega, by go_num, by trivial⟩, by simp [intOf]; omega⟩
  ·have : k = s.size := by omega
   subst this
   go_wp2_with fail
   go_ret
   exact ⟨rfl, rfl⟩
theorem rdecimalForm_any (p : Nat) (w : World) (h0 : 0 < p) (hp : p < 1000000000) :
  Calls Tryz.prog 45 #[.string (itoaB p)] w fun r w' => r = .returned (.bool true) ∧ w = w' := by
 obtain ⟨z3, z4⟩ := itoaB_len hp
 have hf := itoaB_first h0
 have CD := fun w => rDigits_any (itoaB (p : Int)) w (by omega) (fun k hk => itoaB_dig hk)
 obtain ⟨s, hs⟩ : ∃ s, s = itoaB (p : Int) := ⟨_, rfl⟩
 rw [← hs] at z3 z4 hf CD ⊢
 clear hs
 have z4' : 0 < s.size := z4
 rw [byteAt_in z4'] at hf
 have d1 : (((s[0]'z4').toNat : Int) == 48) = false := by simp; omega
 have HCD := hid CD; clear CD hf
 have d2 : ((s.size : Int) == 0) = false := beq_eq_false_iff_ne.2 (by omega)
 have d3 : ¬ s = ByteArray.empty := by rintro rfl; exact absurd z4 (by decide)
 go_enter Tryz.func45, Tryz.ntmps45
 by_cases h1 : 1 < s.size
 ·go_wp2_with fail
  refine (HCD.out _).mono ?_
  rintro e w' ⟨rfl, rfl⟩
  go_wp2_with fail
  go_ret
  exact ⟨rfl, rfl⟩
 ·go_wp2_with fail
  refine (HCD.out _).mono ?_
  rintro e w' ⟨rfl, rfl⟩
  go_wp2_with fail
  go_ret
  exact ⟨rfl, rfl⟩

theorem rCheckPerm_any (a : Option Addr) (cap : Nat) (p : List Int) (w : World) (hS : Ints w a cap p) (hp : IsP p) (h : p.length ≤ 256) :
  Calls Tryz.prog 12 #[.slice a p.length cap] w fun r w' => r = .returned (.int .i64 0) ∧ Below w.heap.size w w' := by
 have hcap := hS.le
 have hm := hS.max
 have HP := hid hp; clear hp
 go_enter Tryz.func12, Tryz.ntmps12
 go_wp2
 go_loopw [3, 4] (fun i _ wr => ∃ k : Nat, k ≤ p.length ∧ i = .int .i64 k ∧ Below w.heap.size w wr) (fun i _ _ => p.length - (intOf i).toNat)
 case atStart => exact ⟨0, by omega, rfl, Below.refl _ _⟩
 case round =>
  obtain ⟨k, hk, rfl, hb⟩ := hrel
  have hR := hS.below hb
  by_cases hlt : k < p.length
  ·have hr := HP.out.rng k (by omega) (by omega)
   have d1 : ¬ atD 0 p k < 0 := by omega
   have d2 : ¬ (p.length : Int) ≤ atD 0 p k := by omega
   clear hr
   go_wp2_with (first | (with_reducible refine wpList_idx _ 0 E_ints F_int cInt1 wU wU (hR) oD oD (fun _ => wU) (fun _ => ?_)) | (with_reducible refine wpList_idxG 0 E_ints F_int cInt1 wU wU (hR) (rfl) oD oD (fun _ => wU) wU (fun _ => wU) (fun _ => ?_)))
   go_loopw [4] (fun i wq => ∃ j : Nat, j ≤ k ∧ i = .int .i64 j ∧ Below w.heap.size w wq) (fun i _ => k - (intOf i).toNat)
   case atStart => exact ⟨0, by omega, rfl, hb⟩
   case round =>
    obtain ⟨j, hj, rfl, hb2⟩ := hrel
    have hR2 := hS.below hb2
    by_cases hjk : j < k
    ·have hjl : j < p.length := by omega
     have hne : atD 0 p j ≠ atD 0 p k := fun e => by have := HP.out.inj j k (by omega) (by omega) (by omega) (by omega) e; omega
     have d3 : (atD 0 p j == atD 0 p k) = false := by simpa using hne
     clear hne
     go_wp2_with fail
     refine wp_region_quiet_lit kR kR ?_
     repeat (first | ((with_reducible refine wpQD_idx 0 E_ints F_int cInt1 wU wU (hR2) oD oD (fun _ => wU) (fun _ => ?_)); (try simp only [Act.put, pA, pB, pC]); (try simp only [cInt])) | quiet_step (fail))
     refine wpQuiet_nil ?_
     intro w2 hb3
     replace hb3 := below_drewN hb3
     go_wp2_with fail
     go_roundw
     case rel => exact ⟨j + 1, by omega, by simp, bnext hb2 hb3⟩
     case measure => simp [intOf]; omega
    ·have : j = k := by omega
     subst this
     go_wp2_with fail
     go_roundw
     case rel => exact ⟨j + 1, by omega, by simp, hb2⟩
     case measure => simp [intOf]; omega
  ·have : k = p.length := by omega
   subst this
   go_wp2_with fail
   go_ret
   exact ⟨rfl, hb⟩

theorem rCheck_any (p : Nat) (w : World) (h0 : 0 < p) (hp : p < 1000000000) :
  Calls Tryz.prog 13 #[.string (itoaB p)] w fun r w' => r = .returned (.int .i64 0) ∧ Below w.heap.size w w' := by
 obtain ⟨z3, z4⟩ := itoaB_len hp
 have hf := itoaB_first h0
 have CD := fun w => rdecimalForm_any p w h0 hp
 have CS := fun w => rslash_any (itoaB (p : Int)) _ w (slashAt_none (fun j hj => itoaB_dig hj)) (by omega)
 have hx : (itoaB (p : Int)).extract 0 (itoaB (p : Int)).size = itoaB (p : Int) := by rw [ByteArray.extract_zero_size]
 obtain ⟨s, hs⟩ : ∃ s, s = itoaB (p : Int) := ⟨_, rfl⟩
 rw [← hs] at z3 z4 hf CD CS hx ⊢
 clear hs
 have z4' : 0 < s.size := z4
 rw [byteAt_in z4'] at hf
 have d1 : (((s[0]'z4').toNat : Int) == 45) = false := by simp; omega
 have HCD := hid CD; have HCS := hid CS; have HX := hid hx; clear CD CS hf hx
 go_enter Tryz.func13, Tryz.ntmps13
 go_wp2_with fail
 refine (HCS.out _).mono ?_
 rintro e w' ⟨rfl, rfl⟩
 go_wp2_with fail
 refine (HCD.out _).mono ?_
 rintro e w' ⟨rfl, rfl⟩
 go_wp2_with fail
 go_ret
 exact ⟨rfl, Below.refl _ _⟩

end Go.Proofs.YtndmeaoidihikaaGreatDoor

namespace Go.Proofs
open Go.Shelf
def Tryz.laysM146_ren : Go.Shelf.Ren := ⟨fun | 146 => 80 | 221 => 115 | 268 => 142 | 138 => 143 | 143 => 144 | 195 => 169 | 197 => 170 | 218 => 171 | 219 => 172 | 260 => 193 | 217 => 194 | 225 => 195 | 224 => 196 | 267 => 197 | 266 => 215 | 314 => 216 | n => n, fun | 9 => 9 | 31 => 111 | 3 => 3 | 4 => 4 | 0 => 0 | 105 => 203 | 21 => 21 | 5 => 5 | 46 => 214 | 119 => 239 | 139 => 242 | 138 => 241 | 146 => 243 | 51 => 223 | n => n, fun | 1 => 0 | 3 => 4 | 4 => 5 | n => n⟩
theorem Tryz.laysM146 : Go.Proofs.LaysM.n146 Tryz.prog Tryz.laysM146_ren := {
 mixed := by kernel_rfl
 f138 := Tryz.func143.trans (congrArg some (by kernel_rfl))
 f143 := Tryz.func144.trans (congrArg some (by kernel_rfl))
 f146 := Tryz.func80.trans (congrArg some (by kernel_rfl))
 f195 := Tryz.func169.trans (congrArg some (by kernel_rfl))
 f197 := Tryz.func170.trans (congrArg some (by kernel_rfl))
 f217 := Tryz.func194.trans (congrArg some (by kernel_rfl))
 f218 := Tryz.func171.trans (congrArg some (by kernel_rfl))
 f219 := Tryz.func172.trans (congrArg some (by kernel_rfl))
 f221 := Tryz.func115.trans (congrArg some (by kernel_rfl))
 f224 := Tryz.func196.trans (congrArg some (by kernel_rfl))
 f225 := Tryz.func195.trans (congrArg some (by kernel_rfl))
 f260 := Tryz.func193.trans (congrArg some (by kernel_rfl))
 f266 := Tryz.func215.trans (congrArg some (by kernel_rfl))
 f267 := Tryz.func197.trans (congrArg some (by kernel_rfl))
 f268 := Tryz.func142.trans (congrArg some (by kernel_rfl))
 f314 := Tryz.func216.trans (congrArg some (by kernel_rfl))
 t0 := Tryz.underlying0
 a0 := Tryz.isAgg0
 z0 := Tryz.sizeOf0
 v0 := Tryz.zeroValue0
 t3 := Tryz.underlying3
 a3 := Tryz.isAgg3
 z3 := Tryz.sizeOf3
 v3 := Tryz.zeroValue3
 t4 := Tryz.underlying4
 a4 := Tryz.isAgg4
 z4 := Tryz.sizeOf4
 v4 := Tryz.zeroValue4
 t5 := Tryz.underlying5
 a5 := Tryz.isAgg5
 z5 := Tryz.sizeOf5
 v5 := Tryz.zeroValue5
 t9 := Tryz.underlying9
 a9 := Tryz.isAgg9
 z9 := Tryz.sizeOf9
 v9 := Tryz.zeroValue9
 t21 := Tryz.underlying21
 a21 := Tryz.isAgg21
 z21 := Tryz.sizeOf21
 v21 := Tryz.zeroValue21
 t31 := Tryz.underlying111
 a31 := Tryz.isAgg111
 z31 := Tryz.sizeOf111
 v31 := Tryz.zeroValue111
 t46 := Tryz.underlying214
 a46 := Tryz.isAgg214
 z46 := Tryz.sizeOf214
 v46 := Tryz.zeroValue214
 t51 := Tryz.underlying223
 a51 := Tryz.isAgg223
 z51 := Tryz.sizeOf223
 v51 := Tryz.zeroValue223
 t105 := Tryz.underlying203
 a105 := Tryz.isAgg203
 z105 := Tryz.sizeOf203
 v105 := Tryz.zeroValue203
 t119 := Tryz.underlying239
 a119 := Tryz.isAgg239
 z119 := Tryz.sizeOf239
 t138 := Tryz.underlying241
 a138 := Tryz.isAgg241
 z138 := Tryz.sizeOf241
 v138 := Tryz.zeroValue241
 t139 := Tryz.underlying242
 a139 := Tryz.isAgg242
 z139 := Tryz.sizeOf242
 v139 := Tryz.zeroValue242
 t146 := Tryz.underlying243
 a146 := Tryz.isAgg243
 z146 := Tryz.sizeOf243
 v146 := Tryz.zeroValue243
 g1 := by kernel_rfl
 g3 := by kernel_rfl
 g4 := by kernel_rfl
 i0 := by kernel_rfl
 i3 := by kernel_rfl
 i4 := by kernel_rfl
 i5 := by kernel_rfl
 i9 := by kernel_rfl
 i21 := by kernel_rfl
 i31 := by kernel_rfl
 i46 := by kernel_rfl
 i51 := by kernel_rfl
 i105 := by kernel_rfl
 i138 := by kernel_rfl
 i139 := by kernel_rfl
 i146 := by kernel_rfl
 m1 := by kernel_rfl
 s1_3 := fun w h => Go.Proofs.cell_of_shapedOpen_int (zero := #[.int .i64 0]) (t := 3) h (of_decide_eq_true (by kernel_rfl)) (by kernel_rfl) rfl (by kernel_rfl) (by kernel_rfl) Tryz.underlying3
 m3 := by kernel_rfl
 m4 := by kernel_rfl }

end Go.Proofs

namespace Go.Proofs.YtndmeaoidihikaaGreatDoor
open Go.RowKit
set_option maxRecDepth 100000

theorem gPowT : (Tryz.prog.globals[1]?).map (·.type) = some 222 := by kernel_rfl
/-- a row's condition lays the table. -/
theorem tabW_of {W : World} {l : List (String × DataW Unit)} (hL : laidMetH Tryz.prog l W) (he : (l.filter fun x => x.2.handleName?.isNone).filter (fun p => p.1 == "internal/strconv.uint64pow10") = [("internal/strconv.uint64pow10", Lib.tabData .u64 Lib.pow10Tab)]) : TabW W := by
 have h := (laidMetH_iff.1 hL).1.filter (fun p => p.1 == "internal/strconv.uint64pow10")
 rw [he] at h
 exact Lib.tabIs_of_head gPow gPowT Tryz.underlying222 Tryz.underlying186 kR kR h
end Go.Proofs.YtndmeaoidihikaaGreatDoor

namespace Go.Proofs.YtndmeaoidihikaaGreatDoor
open Go.RowKit Go.ChangeShapes Go.WideShapes Go.ChangeAt
set_option maxRecDepth 100000

theorem kidsP : Kids Tryz.prog (· < Tryz.prog.types.size) := kids_rows kR kR
theorem fullP : ∀ t e, t < Tryz.prog.types.size → Tryz.prog.underlying t = some (.slice e) → 0 < Tryz.prog.cellsOf e := slices_full_of Tryz.prog kR

section
variable {H : Type} {enc : TypeId × Value → H} {P : Program} {W W' : World}
theorem trodAll_carryW {base : Nat} {sp : Nat → Bool} {held : Bool} : ∀ {ts : List TypeId} {vs : List Value} {ds : List (DataW H)} {ps : List MemPlace}, DataW.TrodAll enc P W base sp held ts vs ds ps → (∀ p ∈ ps, W.sameAt W' p) → DataW.TrodAll enc P W' base sp held ts vs ds ps
 | [], [], [], _, h, _ => h
 | _ :: _, _ :: _, _ :: _, _, ⟨p, q, ⟨n, h1⟩, h2, e⟩, hs => ⟨p, q, ⟨n, DataW.trod_carry n _ _ _ h1 (fun x hx => hs x (by rw [e]; exact List.mem_append_left _ hx))⟩, trodAll_carryW h2 (fun x hx => hs x (by rw [e]; exact List.mem_append_right _ hx)), e⟩
theorem sameAt_below (hb : Below W.heap.size W W') {p : MemPlace} (h : p.block < W.heap.size) : W.sameAt W' p := by
 cases p with
 | cell b off => exact (hb.cell (p := ⟨b, off, none⟩) h)
 | map b => exact hb.block b h
theorem kept_below (hb : Below W.heap.size W W') (may : MemPlace → Prop) : W.keptBut W' may := by
 refine ⟨hb.os, hb.output, fun i hi => ?_⟩
 rw [hb.block i hi]
 cases h : W.heap[i]? with
 | none => rfl
 | some o =>
  cases o with
  | cells c t fr => exact ⟨rfl, rfl, rfl, fun _ _ => rfl⟩
  | map es clock => exact .inr ⟨rfl, rfl⟩
  | _ => rfl
/-- a law that returns true and turns nothing that was there. -/
theorem law_post {f : Func} {s : ChangeSpec} {args : Array Value} {ds gs : List (DataW H)} {before : List MemPlace} (hv : s.vars = []) (hr : f.resultTypes = #[4]) (hp : ∀ t ∈ f.params.toList, t < Tryz.prog.types.size)
   (hs : (s.fn H ds).results = [.lit (.bool true)] ∧ (s.fn H ds).args = ds ∧ (s.fn H ds).vars = [])
   (hW : DataW.Whole enc Tryz.prog f.params.toList s.vars false W args.toList ds gs before) (hb : Below W.heap.size W W') : s.post enc Tryz.prog f false true false false W args (.bool true) W' := by
 have hlt := hW.lt
 have hW' := hW
 obtain ⟨p, q, hA, hV, rfl, hfz, _⟩ := hW
 rw [hv] at hV
 have hgs : gs = [] ∧ q = [] := by
  cases gs with
  | nil => exact ⟨rfl, hV⟩
  | cons g gs => exact absurd hV id
 obtain ⟨rfl, rfl⟩ := hgs
 simp only [List.append_nil] at hlt hW' ⊢
 have hsame : ∀ p' ∈ p, W.sameAt W' p' := fun p' hp' => sameAt_below hb (hlt p' hp')
 refine ⟨ds, [], p, [], p, [], hW', ?_, ?_, ?_, kept_below hb _, fun h => by cases h⟩
 ·rw [List.append_nil, hs.1, hr]
  exact trodAll_cons_mk (shut_bool Tryz.underlying4 _) trodAll_mk0
 ·rw [List.append_nil, hs.2.1]
  exact DataW.TrodAll.respare kidsP fullP hp (trodAll_carryW hA hsame) (fun p' hp' => by simpa using hlt p' hp')
 ·rw [List.append_nil, hs.2.2, hv]
  rfl
end
end Go.Proofs.YtndmeaoidihikaaGreatDoor

namespace Go.Proofs.YtndmeaoidihikaaGreatDoor
open Go.RowKit Go.ChangeShapes Go.WideShapes Go.ChangeAt Go.Joins Go.Deep
set_option maxRecDepth 100000
theorem cellsInt : Tryz.prog.cellsOf 3 = 1 := by kernel_rfl
theorem inI_wf {x : Int} (h : (Lit.int .i64 x).wf = true) : InI x := by
 simp [Lit.wf, IntKind.min, IntKind.max, IntKind.bits, IntKind.signed] at h
 unfold InI
 omega
section
variable {H : Type} {enc : TypeId × Value → H} {W : World}
theorem ints_of_cells {a : Addr} {zs : List Int} {len cap : Nat} (hl : len ≤ cap) (hm : cap ≤ maxLen) (hz : len ≤ zs.length) (hc : ∀ i, i < zs.length → W.cell? (a.add i) = some (.int .i64 (zs.getD i 0))) : Ints W (some a) cap (zs.take len) := by
 have hlen : (zs.take len).length = len := by simp; omega
 refine ⟨cIntS, by rw [hlen]; exact hl, hm, fun h => (by cases h), fun j u hj => ?_⟩
 have hfm : ((zs.take len).flatMap fun x => (cInt x).cells.toList) = (zs.take len).map fun x => Value.int .i64 x := by
  generalize zs.take len = l
  induction l with
  | nil => rfl
  | cons x r ih => rw [List.flatMap_cons, ih]; rfl
 rw [hfm, List.getElem?_map] at hj
 have hjl : j < len := by
  obtain ⟨x, hx, _⟩ := Option.map_eq_some_iff.1 hj
  have := (List.getElem?_eq_some_iff.1 hx).1
  simp at this; omega
 have h0 := hc 0 (by omega)
 have hsp : a.spot = none := by
  unfold World.cell? Addr.add at h0
  simp only [if_pos] at h0
  split at h0
  ·split at h0
   ·cases h0
   ·next h => simpa using h
  ·cases h0
 refine ⟨a.block, a.off, by rw [← hsp], ?_⟩
 have hj0 := hc j (by omega)
 have e : a.add j = ⟨a.block, a.off + j, none⟩ := by
  unfold Addr.add
  split
  ·next h => subst h; rw [← hsp]; rfl
  ·rfl
 rw [e] at hj0
 rw [hj0, ← hj]
 have h2 : j < zs.length := by omega
 simp [List.getElem?_take, hjl, h2]
theorem open_intA {r : Reach} {b0 : Nat} {v : Value} {d : DataW H} {ps : List MemPlace} (hval : Value.okWide Tryz.prog W r b0 3 v) (h : DataW.Trod enc Tryz.prog W 0 (fun _ => true) true 3 v d ps) : ∃ x : Int, v = .int .i64 x ∧ InI x := by
 obtain ⟨y, rfl⟩ := okWide_int Tryz.underlying3 hval
 obtain ⟨n, hn⟩ := h
 obtain ⟨x, e, _, w0⟩ := DataW.trod_int Tryz.underlying3 hn
 simp [Value.cells] at e
 subst e
 exact ⟨y, rfl, inI_wf w0⟩
end
end Go.Proofs.YtndmeaoidihikaaGreatDoor

namespace Go.Proofs.YtndmeaoidihikaaGreatDoor
open Go.RowKit Go.ChangeShapes Go.WideShapes Go.ChangeAt Go.Joins Go.Deep
set_option maxRecDepth 100000

section
variable {H : Type} {enc : TypeId × Value → H} {W : World}
end
end Go.Proofs.YtndmeaoidihikaaGreatDoor

namespace Go.Proofs.YtndmeaoidihikaaGreatDoor
open Go.RowKit Go.ChangeShapes Go.WideShapes Go.ChangeAt Go.Joins Go.Deep
set_option maxRecDepth 100000

section
variable {H : Type} {enc : TypeId × Value → H} {W : World}
end
end Go.Proofs.YtndmeaoidihikaaGreatDoor

namespace Go.Proofs.YtndmeaoidihikaaGreatDoor
open Go.RowKit
set_option maxRecDepth 100000

instance (b : UInt8) : Decidable (isDig b) := inferInstanceAs (Decidable (_ ∧ _))
instance (l : List UInt8) : Decidable (canon l) := inferInstanceAs (Decidable (_ ∧ _ ∧ _))
end Go.Proofs.YtndmeaoidihikaaGreatDoor

namespace Go.Proofs.YtndmeaoidihikaaGreatDoor
open Go.RowKit
set_option maxHeartbeats 4000000
set_option maxRecDepth 100000

end Go.Proofs.YtndmeaoidihikaaGreatDoor

namespace Go.Proofs.YtndmeaoidihikaaGreatDoor
open Go.RowKit
set_option maxHeartbeats 4000000
set_option maxRecDepth 100000

end Go.Proofs.YtndmeaoidihikaaGreatDoor

namespace Go.Proofs.YtndmeaoidihikaaGreatDoor
open Go.RowKit
set_option maxHeartbeats 4000000
set_option maxRecDepth 100000

section
variable {P : Program} {ops : Array Oper} {rest : List Oper} {a : Act} {Qa : Act → Prop} {α : Type} {c : α → Value} {sz bytes : Nat} {t e t2 e2 : TypeId} {z : Value} {ad : Option Addr} {cap : Nat} {l : List α} {k : Int} {w : World}
 {d1 d2 d3 : Tmp} {ty1 ty2 ty3 : TypeId} {p1 p2 p3 : String} {s x : Operand} {af1 af2 af3 : Array Edge} {j : Nat}
end

end Go.Proofs.YtndmeaoidihikaaGreatDoor

namespace Go.Proofs.YtndmeaoidihikaaGreatDoor
open Go.RowKit
set_option maxRecDepth 100000

theorem gSynT : (Tryz.prog.globals[2]?).map (·.type) = some 156 := by kernel_rfl
theorem gRngT : (Tryz.prog.globals[3]?).map (·.type) = some 156 := by kernel_rfl
theorem starErr : "*" ++ "errors.errorString" = "*errors.errorString" := by decide
theorem rowErr (u : TypeId) (h : Tryz.prog.typeName? 3 u = some "*errors.errorString") : u = 246 :=
 typeName_ptr_named (nm := "errors.errorString") (by rw [starErr]; kernel_rfl) kR (by decide) u (by rw [starErr]; exact h)
theorem cErr : Tryz.prog.cellsOf 248 = 1 := by kernel_rfl
theorem cStr1' : Tryz.prog.cellsOf 9 = 1 := by kernel_rfl
theorem libW_of {W : World} {l : List (String × DataW Unit)} {t1 t2 : List UInt8} (hL : laidMetH Tryz.prog l W) (hsh : W.ShapedOpen Tryz.prog)
  (h1 : (l.filter fun x => x.2.handleName?.isNone).filter (fun p => p.1 == "internal/strconv.uint64pow10") = [("internal/strconv.uint64pow10", Lib.tabData .u64 Lib.pow10Tab)])
  (h2 : (l.filter fun x => x.2.handleName?.isNone).filter (fun p => p.1 == "strconv.ErrSyntax") = [("strconv.ErrSyntax", .iface "*errors.errorString" (.ptr (.agg [.lit (.string t1)])))])
  (h3 : (l.filter fun x => x.2.handleName?.isNone).filter (fun p => p.1 == "strconv.ErrRange") = [("strconv.ErrRange", .iface "*errors.errorString" (.ptr (.agg [.lit (.string t2)])))]) : LibW W := by
 refine ⟨tabW_of hL h1, Tryz.laysM146.s1_3 W hsh, ?_, ?_⟩
 ·have h := (laidMetH_iff.1 hL).1.filter (fun p => p.1 == "strconv.ErrSyntax")
  rw [h2] at h
  obtain ⟨a, s, hv, _⟩ := laid_sentinel h gSyn gSynT Tryz.underlying156 rowErr Tryz.underlying246 Tryz.underlying248 rfl rfl Tryz.underlying9 cErr cStr1'
  exact ⟨_, _, hv⟩
 ·have h := (laidMetH_iff.1 hL).1.filter (fun p => p.1 == "strconv.ErrRange")
  rw [h3] at h
  obtain ⟨a, s, hv, _⟩ := laid_sentinel h gRng gRngT Tryz.underlying156 rowErr Tryz.underlying246 Tryz.underlying248 rfl rfl Tryz.underlying9 cErr cStr1'
  exact ⟨_, _, hv⟩
section
open Go.ChangeMaps
variable {H : Type} {enc : TypeId × Value → H} {W : World}
end
end Go.Proofs.YtndmeaoidihikaaGreatDoor
