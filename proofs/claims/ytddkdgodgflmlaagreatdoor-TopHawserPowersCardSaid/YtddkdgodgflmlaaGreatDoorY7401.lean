/- Contracts and plain facts that the claim uses (MemA TyA SlA PaA RG CiA EnP MaQ MbP SlB MaH MbS MaM MbU MbW NrP NrM CiB Lib2 ItA OpC TpF SpB QrP QrA). Conditions: as each one states. -/
import Derived.WalkKit
import Derived.WalkSpells
import Derived.Maps.AppendAt
import Derived.Deep.Quiet
import Derived.Test.YtddkdgodgflmlaaGreatDoorProg
import Derived.RangeFuncNested
import Derived.RangeFuncBound
import Derived.RangeFuncCalls
import Derived.RangeFuncLeaves
import Derived.RangeFuncFrom
import Derived.Shelf.Abstract
import Derived.Shelf.RegionOpen
import Derived.OwnWalkIn
import Derived.TacticsInMore
import Derived.LoopNIn
import Derived.LoopIn
import Derived.Maps.Own
import Derived.Maps.OwnSet
import Derived.Maps.Views
import Derived.WalkLawsBesides
import Derived.Laws.EntriesVeiled
import Derived.Deep.QuietTactic
import Derived.BigQuiet
import Derived.Lib.OthersKept
import Derived.Shelf.Strings.Trim
import Derived.Shelf.Strings.SlTrimAscii
import Derived.Shelf.Strings.Repeat
import Derived.Shelf.Strings.OnBuilder
import Derived.Shelf.Strconv.Itoa1
import Derived.Shelf.Strconv.Itoa3
import Derived.Shelf.LaysM
import Derived.Ground.Names2Prog
import Derived.Deep.RegionHeld3
import Derived.Deep.AppendLies
import Derived.Deep.RegionHeldLaw
import Derived.Deep.RegionLaw
import Derived.StillTail
import Derived.Laws.Tables
import Derived.IntWalk
import Derived.Laws.CopyOwn
import Derived.BigRegion
import Derived.ChangeAlike
import Derived.Shelf.Bits.Mul64
import Derived.Lib.ItoaLen
import Derived.Lib.ItoaMem
import Derived.Sort.LoopGhostIn
import Derived.Maps.RangeWalk
import Derived.Sort.QuietThIn
import Derived.Maps.Ext
import Derived.Deep.LoopGhost
import Derived.Lib.AppendIntMem
import Derived.Lib.SmallJoins
import Derived.LaidSub
import Derived.Lib.LaidTab
import Derived.ReadAgain
import Derived.ChangeSlices
import Derived.OpenShut
import Derived.ProofKit
import Derived.Deep.DeepHandedRow
import Derived.Deep.SlicePairs
import Derived.Lib.Split
import Derived.Lib.AtoiAll
import Derived.Lib.AtoiErrMem
import Derived.Stop.LaidErr
import Derived.Test.YtddkdgodgflmlaaGreatDoorXz01
import Derived.Test.YtddkdgodgflmlaaGreatDoorXz02
import Derived.Test.YtddkdgodgflmlaaGreatDoorXz03
import Derived.Test.YtddkdgodgflmlaaGreatDoorXz04
import Derived.Test.YtddkdgodgflmlaaGreatDoorXz05
set_option linter.all false

namespace Go.Proofs.YtddkdgodgflmlaaGreatDoor
open Go.RowKit
section
variable {α : Type} {c : α → Value} {sz : Nat} {w w' : World} {a : Option Addr} {cap : Nat} {l : List α}
end

section
variable {P : Program} {ops : Array Oper} {rest : List Oper} {a : Act} {Q : Exit → Act → World → Prop} {α : Type} {c : α → Value} {sz bytes : Nat} {t e : TypeId} {z : Value} {ad : Option Addr} {cap : Nat} {l : List α} {k : Int}
 {d1 d2 : Tmp} {ty1 ty2 : TypeId} {p1 p2 : String} {s x : Operand} {af1 af2 : Array Edge}

end
end Go.Proofs.YtddkdgodgflmlaaGreatDoor

namespace Go.Proofs.YtddkdgodgflmlaaGreatDoor
open Go.RowKit

section
variable {P : Program} {α : Type} {c : α → Value} {sz bytes B : Nat} {t e : TypeId} {z v : Value} {w w' : World} {l : List α}

theorem below_own {W : World} (h : Below W.heap.size W w) (hg : w.grownBy w' v.ownBlock) (ho : Own c sz B e w v l) (hB : W.heap.size ≤ B) : Below W.heap.size W w' :=
 h.grown hg h.size (fun k hk => Nat.le_trans hB (ho.lt k hk).1)
end
end Go.Proofs.YtddkdgodgflmlaaGreatDoor

namespace Go.Proofs.YtddkdgodgflmlaaGreatDoor
open Go.RowKit

end Go.Proofs.YtddkdgodgflmlaaGreatDoor

namespace Go.Proofs.YtddkdgodgflmlaaGreatDoor
open Go.RowKit
end Go.Proofs.YtddkdgodgflmlaaGreatDoor

namespace Go.Proofs.YtddkdgodgflmlaaGreatDoor
open Go.RowKit
set_option maxRecDepth 100000

def lenV : Value → Nat | .slice _ n _ => n | _ => 0
end Go.Proofs.YtddkdgodgflmlaaGreatDoor

namespace Go.Proofs.YtddkdgodgflmlaaGreatDoor
open Go.RowKit
set_option maxHeartbeats 1000000
set_option maxRecDepth 100000

end Go.Proofs.YtddkdgodgflmlaaGreatDoor

namespace Go.Proofs.YtddkdgodgflmlaaGreatDoor
open Go.RowKit
set_option maxRecDepth 100000

section
variable {B : Nat} {w0 w w' : World} {L K : List Pc}
end

def pMapB (k n : Nat) (g : Int → Bool) : Pc where
 P w b := b = some k ∧ MapB w k n g
 lt w j h := by obtain ⟨h1, h2⟩ := h; cases h1; exact h2.lt
 loc w w' row b h hg hne := ⟨h.1, h.2.kept hg (fun e => hne k h.1 e.symm)⟩

section
variable {B : Nat} {w0 w w' : World} {L : List Pc} {α : Type} {c : α → Value} {sz : Nat} {e : TypeId} {v : Value} {l : List α}
theorem SL.mapB {k n : Nat} {g : Int → Bool} (h : SL B w0 w L) (i : Nat) (hi : L[i]? = some (pMapB k n g)) : MapB w k n g := by
 obtain ⟨b, ⟨_, h1⟩, _⟩ := h.upd i hi
 exact h1
end

section
variable {P : Program} {ops : Array Oper} {rest : List Oper} {a : Act} {Q : Exit → Act → World → Prop} {α : Type} {c : α → Value} {sz bytes B : Nat} {t e : TypeId} {z v : Value} {w0 w : World} {L : List Pc} {l : List α}
end
section
variable {ops : Array Oper} {rest : List Oper} {a : Act} {Q : Exit → Act → World → Prop} {d : Option Tmp} {ty : TypeId} {p : String} {m x y : Operand} {af : Array Edge} {b n B : Nat} {k : Int} {w0 w : World} {L : List Pc}
theorem wpList_putBL {f : Int → Bool} {v : Bool} (i : Nat) (hm : a.eval m = .map (some b)) (hx : a.eval x = .int .i64 k) (hy : a.eval y = .bool v) (hS : SL B w0 w L) (hi : L[i]? = some (pMapB b n f)) (hk : InI k) (hn : n < maxLen)
   (hK : ∀ w', SL B w0 w' (L.set i (pMapB b (n + 1) (fun x => if x = k then v else f x))) → wpList Tryz.prog ops Q rest (a.put d undef) w') :
   wpList Tryz.prog ops Q (⟨d, .mapUpdate 95 m x y, ty, p, af, none⟩ :: rest) a w := by
 obtain ⟨o, ⟨rfl, h2⟩, h4, h5⟩ := hS.upd i hi
 exact wpList_putB hm hx hy h2 hk hn (fun w' h1 hg => hK w' (h5 w' _ (some b) hg ⟨rfl, h1⟩ (.inl rfl)))
end
end Go.Proofs.YtddkdgodgflmlaaGreatDoor

namespace Go.Proofs.YtddkdgodgflmlaaGreatDoor
open Go.RowKit
set_option maxRecDepth 100000

section
variable {B : Nat} {w0 w w' : World} {L K : List Pc}
end

section
variable {α : Type} {c : α → Value} {sz : Nat} {e : TypeId} {v : Value} {l : List α} {B : Nat} {W0 w : World} {L : List Pc}
end
end Go.Proofs.YtddkdgodgflmlaaGreatDoor

namespace Go.Proofs.YtddkdgodgflmlaaGreatDoor
open Go.RowKit
set_option maxHeartbeats 400000
set_option maxRecDepth 100000

instance : Inhabited PassV := ⟨⟨0, 0, ByteArray.empty⟩⟩
def byteAt (s : ByteArray) (k : Nat) : Int := if h : k < s.size then ((s[k]'h).toNat : Int) else 0
theorem byteAt_in {s : ByteArray} {k : Nat} (h : k < s.size) : byteAt s k = ((s[k]'h).toNat : Int) := by simp [byteAt, h]

end Go.Proofs.YtddkdgodgflmlaaGreatDoor

namespace Go.Proofs.YtddkdgodgflmlaaGreatDoor
open Go.RowKit
set_option maxHeartbeats 400000
set_option maxRecDepth 100000

end Go.Proofs.YtddkdgodgflmlaaGreatDoor

namespace Go.Proofs.YtddkdgodgflmlaaGreatDoor
open Go.RowKit
set_option maxHeartbeats 1000000
set_option maxRecDepth 100000

def idL (n : Nat) : List Int := (List.range n).map fun (i : Nat) => (i : Int)
theorem idL_succ (n : Nat) : idL (n + 1) = idL n ++ [(n : Int)] := by simp [idL, List.range_succ]
theorem idL_len (n : Nat) : (idL n).length = n := by simp [idL]
theorem rIdentity_any (n : Nat) (w : World) (hn : n ≤ 100000) :
  Calls Tryz.prog 29 #[.int .i64 n] w fun r w' => ∃ v, r = .returned v ∧ OwnI w.heap.size w' v (idL n) ∧ Below w.heap.size w w' := by
 go_enter Tryz.func29, Tryz.ntmps29
 go_wp2
 go_loopw [3, 4] (fun v i wr => ∃ k : Nat, k ≤ n ∧ i = .int .i64 k ∧ OwnI w.heap.size wr v (idL k) ∧ Below w.heap.size w wr) (fun _ i _ => n - (intOf i).toNat)
 case atStart => exact ⟨0, by omega, rfl, own_nil cIntS, Below.refl _ _⟩
 case round =>
  obtain ⟨k, hk, rfl, hO, hbr⟩ := hrel
  have hle : (idL k).length ≤ 100000 := by rw [idL_len]; omega
  have hbs := hbr.size
  by_cases hlt : k < n
  ·have hs := idL_succ k
   have HS := hid hs; clear hs
   go_wp2_with ((with_reducible refine wpList_app (l := (idL k)) (ys := [(k : Int)]) E_ints wU wU ((hO).alloc _) (reps_new1 cIntS ((k : Int)) _ _ (by simp) rfl) cIntO (by simp; omega) (by first | omega | (simp; omega)) (by simp; omega) ?_); intro v3 w3 ho3 hg3 hat3)
   exact ⟨⟨k + 1, by omega, by go_num, by rw [HS.out]; exact ho3, below_own (bal hbr (.cells #[.int .i64 (k : Int)] 3)) hg3 (hO.alloc _) (Nat.le_refl _)⟩, by simp [intOf]; omega⟩
  ·have : k = n := by omega
   subst this
   go_wp2_with fail
   go_ret
   exact ⟨_, rfl, hO, hbr⟩

end Go.Proofs.YtddkdgodgflmlaaGreatDoor

namespace Go.Proofs.YtddkdgodgflmlaaGreatDoor
open Go.RowKit
set_option maxHeartbeats 1000000
set_option maxRecDepth 100000

section
variable {s : List Int} {ms : List (Int × Int)} {p : List Int}
end

theorem ord_dvd {p : List Int} {i : Int} {d : Nat} (h : Ord p i d) (n : Nat) : itP p i n = i ↔ d ∣ n := by
 have e : n = n % d + n / d * d := by have := Nat.mod_add_div n d; rw [Nat.mul_comm] at this; omega
 constructor
 ·intro hn
  rw [e, itP_add, itP_mul h.back] at hn
  have hm := Nat.mod_lt n h.pos
  rcases Nat.eq_zero_or_pos (n % d) with h0 | h0
  ·exact Nat.dvd_of_mod_eq_zero h0
  ·exact absurd hn (h.min _ h0 hm)
 ·rintro ⟨q, rfl⟩
  rw [Nat.mul_comm]; exact itP_mul h.back q
theorem lcmF_lcm (o n : Nat) : lcmF o n = Nat.lcm o n := by
 unfold lcmF Nat.lcm
 rw [Nat.div_mul_right_comm (Nat.gcd_dvd_left o n)]
theorem perF_dvd (k : Nat) : ∀ (ls : List Nat) (o : Nat), ls.foldl lcmF o ∣ k ↔ o ∣ k ∧ ∀ n ∈ ls, n ∣ k
 | [], o => by simp
 | n :: r, o => by
   rw [List.foldl_cons, perF_dvd k r, lcmF_lcm, Nat.lcm_dvd_iff]
   simp [and_assoc]
theorem period_iff {p : List Int} (hp : IsP p) (n : Nat) : (∀ i : Int, 0 ≤ i → i < p.length → itP p i n = i) ↔ periodN p ∣ n := by
 unfold periodN perF
 rw [perF_dvd]
 constructor
 ·intro h
  refine ⟨Nat.one_dvd _, fun m hm => ?_⟩
  obtain ⟨l, hl, rfl⟩ := List.mem_map.1 hm
  obtain ⟨j, hj, rfl⟩ := cycK_orb hp (Nat.le_refl _) l hl
  obtain ⟨d, hd⟩ := ord_ex hp (i := (j : Int)) (by omega) (by omega)
  rw [orb_len hd]
  exact (ord_dvd hd n).1 (h j (by omega) (by omega))
 ·rintro ⟨_, h⟩ i i0 i1
  have hin := cycK_all hp (Nat.le_refl _) i.toNat (by omega)
  rw [Int.toNat_of_nonneg i0] at hin
  obtain ⟨l, hl, hil⟩ := List.mem_flatten.1 hin
  obtain ⟨j, hj, rfl⟩ := cycK_orb hp (Nat.le_refl _) l hl
  obtain ⟨d, hd⟩ := ord_ex hp (i := (j : Int)) (by omega) (by omega)
  have hdv := h _ (List.mem_map.2 ⟨_, hl, rfl⟩)
  rw [orb_len hd] at hdv
  rw [orb_eq hd] at hil
  obtain ⟨m, _, rfl⟩ := List.mem_map.1 hil
  rw [← itP_add, Nat.add_comm, itP_add, (ord_dvd hd n).2 hdv]

def wgt (o m : Nat) : Nat := if m ∣ o then m * 4 ^ m else 5 ^ m
def wgtL (o : Nat) : List Nat → Nat
 | [] => 1
 | m :: r => wgt o m * wgtL o r
theorem wgt_mono {o o' m : Nat} (h : o ∣ o') (hm : 5 ^ m ≤ m * 4 ^ m) : wgt o m ≤ wgt o' m := by
 unfold wgt
 by_cases a : m ∣ o
 ·rw [if_pos a, if_pos (Nat.dvd_trans a h)]; exact Nat.le_refl _
 ·rw [if_neg a]; split
  ·exact hm
  ·exact Nat.le_refl _
theorem wgtL_mono {o o' : Nat} (h : o ∣ o') : ∀ ms : List Nat, (∀ m ∈ ms, 5 ^ m ≤ m * 4 ^ m) → wgtL o ms ≤ wgtL o' ms
 | [], _ => Nat.le_refl _
 | m :: r, hm => Nat.mul_le_mul (wgt_mono h (hm m (by simp))) (wgtL_mono h r (fun x hx => hm x (by simp [hx])))
theorem wgtL_in {o o' n : Nat} (h : o ∣ o') (h1 : ¬ n ∣ o) (h2 : n ∣ o') : ∀ ms : List Nat, (∀ m ∈ ms, 5 ^ m ≤ m * 4 ^ m) → n ∈ ms → wgtL o ms * (n * 4 ^ n) ≤ wgtL o' ms * 5 ^ n
 | [], _, hn => by simp at hn
 | m :: r, hm, hn => by
   rw [wgtL, wgtL]
   by_cases e : n = m
   · subst e
     have hr := wgtL_mono h r (fun x hx => hm x (by simp [hx]))
     have a1 : wgt o n = 5 ^ n := if_neg h1
     have a2 : wgt o' n = n * 4 ^ n := if_pos h2
     rw [a1, a2]
     calc 5 ^ n * wgtL o r * (n * 4 ^ n) = (n * 4 ^ n) * wgtL o r * 5 ^ n := by ac_rfl
       _ ≤ (n * 4 ^ n) * wgtL o' r * 5 ^ n := Nat.mul_le_mul_right _ (Nat.mul_le_mul_left _ hr)
   · have hr := wgtL_in h h1 h2 r (fun x hx => hm x (by simp [hx])) (by simpa [e] using hn)
     have hw := wgt_mono h (hm m (by simp))
     calc wgt o m * wgtL o r * (n * 4 ^ n) = wgt o m * (wgtL o r * (n * 4 ^ n)) := by ac_rfl
       _ ≤ wgt o' m * (wgtL o' r * 5 ^ n) := Nat.mul_le_mul hw hr
       _ = wgt o' m * wgtL o' r * 5 ^ n := by ac_rfl
def msW : List Nat := [2, 3, 4, 5, 6, 7, 8, 9, 10]
theorem msW_ok : ∀ m ∈ msW, 5 ^ m ≤ m * 4 ^ m := by decide
theorem big_pow : ∀ n : Nat, 11 ≤ n → n * 4 ^ n ≤ 5 ^ n := by
 intro n h
 induction n with
 | zero => omega
 | succ n ih =>
  by_cases e : n + 1 = 11
  ·have : n = 10 := by omega
   subst this; decide
  ·have := ih (by omega)
   rw [Nat.pow_succ, Nat.pow_succ]
   have h4 : (n + 1) * (4 ^ n * 4) = 4 * (n + 1) * 4 ^ n := by ac_rfl
   rw [h4]
   calc 4 * (n + 1) * 4 ^ n ≤ 5 * n * 4 ^ n := Nat.mul_le_mul_right _ (by omega)
    _ = 5 * (n * 4 ^ n) := by ac_rfl
    _ ≤ 5 * 5 ^ n := Nat.mul_le_mul_left _ this
    _ = 5 ^ n * 5 := by ac_rfl
theorem perW (kW : Nat) (ls : List Nat) : ∀ (o s : Nat), (∀ n ∈ ls, 0 < n) → o * 4 ^ s * kW ≤ 5 ^ s * wgtL o msW → (ls.foldl lcmF o) * 4 ^ (s + ls.sum) * kW ≤ 5 ^ (s + ls.sum) * wgtL (ls.foldl lcmF o) msW := by
 induction ls with
 | nil => intro o s _ h; rw [List.foldl_nil, List.sum_nil, Nat.add_zero]; exact h
 | cons n r ih =>
  intro o s hp h
  have hn := hp n (by simp)
  rw [List.foldl_cons, List.sum_cons, ← Nat.add_assoc]
  refine ih _ _ (fun x hx => hp x (by simp [hx])) ?_
  have h4 : 4 ^ n ≤ 5 ^ n := Nat.pow_le_pow_left (by decide) n
  rw [Nat.pow_add, Nat.pow_add]
  have hd1 : o ∣ lcmF o n := by rw [lcmF_lcm]; exact Nat.dvd_lcm_left _ _
  have hd2 : n ∣ lcmF o n := by rw [lcmF_lcm]; exact Nat.dvd_lcm_right _ _
  have hle := lcmF_le o n
  by_cases hdv : n ∣ o
  ·have e : lcmF o n = o := by rw [lcmF_lcm]; exact Nat.lcm_eq_left hdv
   rw [e]
   calc o * (4 ^ s * 4 ^ n) * kW = (o * 4 ^ s * kW) * 4 ^ n := by ac_rfl
    _ ≤ (5 ^ s * wgtL o msW) * 5 ^ n := Nat.mul_le_mul h h4
    _ = 5 ^ s * 5 ^ n * wgtL o msW := by ac_rfl
  ·have h1 : lcmF o n * (4 ^ s * 4 ^ n) * kW ≤ (5 ^ s * wgtL o msW) * (n * 4 ^ n) := by
    calc lcmF o n * (4 ^ s * 4 ^ n) * kW ≤ (o * n) * (4 ^ s * 4 ^ n) * kW := Nat.mul_le_mul_right _ (Nat.mul_le_mul_right _ hle)
     _ = (o * 4 ^ s * kW) * (n * 4 ^ n) := by ac_rfl
     _ ≤ (5 ^ s * wgtL o msW) * (n * 4 ^ n) := Nat.mul_le_mul_right _ h
   refine Nat.le_trans h1 ?_
   by_cases h10 : n ≤ 10
   ·have hin : n ∈ msW := by
     have h2 : n ≠ 1 := fun e => hdv (by rw [e]; exact Nat.one_dvd _)
     have : n = 2 ∨ n = 3 ∨ n = 4 ∨ n = 5 ∨ n = 6 ∨ n = 7 ∨ n = 8 ∨ n = 9 ∨ n = 10 := by omega
     unfold msW
     rcases this with rfl | rfl | rfl | rfl | rfl | rfl | rfl | rfl | rfl <;> decide
    have hw := wgtL_in hd1 hdv hd2 msW msW_ok hin
    calc 5 ^ s * wgtL o msW * (n * 4 ^ n) = 5 ^ s * (wgtL o msW * (n * 4 ^ n)) := by ac_rfl
     _ ≤ 5 ^ s * (wgtL (lcmF o n) msW * 5 ^ n) := Nat.mul_le_mul_left _ hw
     _ = 5 ^ s * 5 ^ n * wgtL (lcmF o n) msW := by ac_rfl
   ·have hb := big_pow n (by omega)
    have hw := wgtL_mono hd1 msW msW_ok
    calc 5 ^ s * wgtL o msW * (n * 4 ^ n) ≤ 5 ^ s * wgtL (lcmF o n) msW * 5 ^ n := Nat.mul_le_mul (Nat.mul_le_mul_left _ hw) hb
     _ = 5 ^ s * 5 ^ n * wgtL (lcmF o n) msW := by ac_rfl
theorem wgtL_top (o : Nat) : ∀ ms : List Nat, (∀ m ∈ ms, 5 ^ m ≤ m * 4 ^ m) → wgtL o ms ≤ wgtL 0 ms := fun ms h => wgtL_mono (Nat.dvd_zero o) ms h
theorem perF_small (ls : List Nat) (hp : ∀ n ∈ ls, 0 < n) (h : ls.sum ≤ 64) : perF ls < 100000000 := by
 have h0 := perW (5 ^ 54) ls 1 0 hp (by decide +kernel)
 rw [Nat.zero_add] at h0
 have h1 := Nat.le_trans h0 (Nat.mul_le_mul_left _ (wgtL_top _ msW msW_ok))
 obtain ⟨k, hk⟩ : ∃ k, 64 = ls.sum + k := ⟨64 - ls.sum, by omega⟩
 have h2 : perF ls * 4 ^ 64 * 5 ^ 54 ≤ 5 ^ 64 * wgtL 0 msW := by
  rw [hk, Nat.pow_add, Nat.pow_add]
  calc perF ls * (4 ^ ls.sum * 4 ^ k) * 5 ^ 54 = (perF ls * 4 ^ ls.sum * 5 ^ 54) * 4 ^ k := by ac_rfl
   _ ≤ (5 ^ ls.sum * wgtL 0 msW) * 5 ^ k := Nat.mul_le_mul h1 (Nat.pow_le_pow_left (by decide) k)
   _ = 5 ^ ls.sum * 5 ^ k * wgtL 0 msW := by ac_rfl
 rcases Nat.lt_or_ge (perF ls) 100000000 with h3 | h3
 ·exact h3
 ·exfalso
  have h4 := Nat.le_trans (Nat.mul_le_mul_right (5 ^ 54) (Nat.mul_le_mul_right (4 ^ 64) h3)) h2
  exact absurd h4 (by decide +kernel)
end Go.Proofs.YtddkdgodgflmlaaGreatDoor

namespace Go.Proofs.YtddkdgodgflmlaaGreatDoor
open Go.RowKit
set_option maxHeartbeats 1000000
set_option maxRecDepth 100000

theorem idL_at {n : Nat} {j : Int} (h0 : 0 ≤ j) (h1 : j < n) : atD 0 (idL n) j = j := by
 unfold idL atD
 rw [List.getD_eq_getElem?_getD, List.getElem?_map, List.getElem?_range (by omega)]
 simp; omega
theorem period_pos {p : List Int} (hp : IsP p) : 0 < periodN p := perF_pos _ 1 (by decide) (fun n hn => by obtain ⟨l, hl, rfl⟩ := List.mem_map.1 hn; exact cycK_pos hp (Nat.le_refl _) l hl)
theorem period_small {p : List Int} (hp : IsP p) (h : p.length ≤ 64) : periodN p < 100000000 := by
 refine perF_small _ (fun n hn => ?_) (Nat.le_trans (cycK_sum hp (Nat.le_refl _)) h)
 obtain ⟨l, hl, rfl⟩ := List.mem_map.1 hn; exact cycK_pos hp (Nat.le_refl _) l hl

/-- the first j places of a cycle. -/
def orbK (p : List Int) (i : Int) (j : Nat) : List Int := (List.range j).map (itP p i)
theorem orbK_succ (p : List Int) (i : Int) (j : Nat) : orbK p i (j + 1) = orbK p i j ++ [itP p i j] := by simp [orbK, List.range_succ]
theorem orbK_new {p : List Int} (hp : IsP p) {i : Int} (h0 : 0 ≤ i) (h1 : i < p.length) {d : Nat} (h : Ord p i d) {j : Nat} (hj : j < d) : itP p i j ∉ orbK p i j := by
 intro hm
 obtain ⟨a, ha, e⟩ := List.mem_map.1 hm
 have ha := List.mem_range.1 ha
 have e2 : itP p i j = itP p (itP p i (j - a)) a := by rw [← itP_add]; congr 1; omega
 rw [e2] at e
 have rd := itP_rng hp h0 h1 (j - a)
 exact h.min (j - a) (by omega) (by omega) (itP_inj hp h0 h1 rd.1 rd.2 a e).symm
theorem orbK_out {p : List Int} (hp : IsP p) {k : Nat} (hk : k < p.length) (hn : (k : Int) ∉ (cycK p k).flatten) {d : Nat} (h : Ord p k d) {j : Nat} (hj : j ≤ d) : itP p k j ∉ (cycK p k).flatten := by
 intro hm
 obtain ⟨_, _, h3⟩ := cycK_ok hp k (by omega)
 have hcl : ∀ m (x : Int), x ∈ (cycK p k).flatten → itP p x m ∈ (cycK p k).flatten := by
  intro m
  induction m with
  | zero => intro x hx; exact hx
  | succ m ih => intro x hx; exact h3 _ (ih x hx)
 have := hcl (d - j) _ hm
 rw [← itP_add, show d - j + j = d by omega, h.back] at this
 exact hn this
end Go.Proofs.YtddkdgodgflmlaaGreatDoor

namespace Go.Proofs.YtddkdgodgflmlaaGreatDoor
set_option maxRecDepth 100000

theorem least_ex {P : Nat → Prop} (h : ∃ n, P n) : ∃ n, P n ∧ ∀ k, k < n → ¬ P k := by
 obtain ⟨n, hn⟩ := h
 induction n using Nat.strongRecOn with
 | _ n ih =>
  by_cases hx : ∃ k, k < n ∧ P k
  ·obtain ⟨k, hk, hp⟩ := hx; exact ih k hk hp
  ·exact ⟨n, hn, fun k hk hp => hx ⟨k, hk, hp⟩⟩
/-- two carriers are in both slots of a shared place. -/
def hitM (m : MacV) (x y : Int) : Bool := (decide (0 ≤ placeM m x) && sharedM m (placeM m x)) && decide (placeM m x = placeM m y)
/-- what a first meeting is. -/
def MeetR (m : MacV) (a b : Int) : Option (Nat × Int) → Prop
 | some (n, p) => hitM m (itM m a n) (itM m b n) = true ∧ p = placeM m (itM m a n) ∧ ∀ k, k < n → hitM m (itM m a k) (itM m b k) = false
 | none => ∀ k, hitM m (itM m a k) (itM m b k) = false
theorem meet_ex (m : MacV) (a b : Int) : ∃ r, MeetR m a b r := by
 by_cases h : ∃ n, hitM m (itM m a n) (itM m b n) = true
 ·obtain ⟨n, hn, hk⟩ := least_ex h
  exact ⟨some (n, _), hn, rfl, fun k h2 => by simpa using hk k h2⟩
 ·exact ⟨none, fun k => by cases e : hitM m (itM m a k) (itM m b k) with | false => rfl | true => exact absurd ⟨k, e⟩ h⟩
noncomputable def meetM (m : MacV) (a b : Int) : Option (Nat × Int) := Classical.choose (meet_ex m a b)
end Go.Proofs.YtddkdgodgflmlaaGreatDoor

namespace Go.Proofs.YtddkdgodgflmlaaGreatDoor
set_option maxRecDepth 100000

structure CrM where
 gear : Int
 over : Int
 under : Int
 going : Int
deriving DecidableEq
end Go.Proofs.YtddkdgodgflmlaaGreatDoor

namespace Go.Proofs.YtddkdgodgflmlaaGreatDoor
open Go.RowKit
set_option maxHeartbeats 400000
set_option maxRecDepth 100000

/-- a slice that can be read, in a block of its own. -/
def pRd {α : Type} (c : α → Value) (sz : Nat) (a : Option Addr) (cap : Nat) (l : List α) : Pc where
 P w b := Reps c sz w a cap l ∧ ((l = [] ∧ b = none) ∨ ∃ x, a = some x ∧ b = some x.block ∧ x.block < w.heap.size)
 lt w k h := by
  rcases h.2 with ⟨_, h2⟩ | ⟨x, _, h2, h3⟩
  ·cases h2
  ·cases h2; exact h3
 loc w w' row b h hg hne := by
  rcases h.2 with ⟨h1, h2⟩ | ⟨x, h1, h2, h3⟩
  ·subst h1
   obtain ⟨r1, r2, r3, r4, r5⟩ := h.1
   exact ⟨⟨r1, r2, r3, r4, fun j u hj => by simp at hj⟩, .inl ⟨rfl, h2⟩⟩
  ·exact ⟨h.1.grown hg (fun b' e => by rw [h1] at e; cases e; exact fun e2 => hne _ h2 e2.symm), .inr ⟨x, h1, h2, Nat.lt_of_lt_of_le h3 hg.size⟩⟩
theorem SL.newRd {α : Type} {c : α → Value} {sz : Nat} {B : Nat} {w0 w w' : World} {L : List Pc} {a : Option Addr} {cap : Nat} {l : List α} (h : SL B w0 w L) (hb : Below w.heap.size w w') (hR : Reps c sz w' a cap l) (hsz : 0 < sz) (hf : ∀ b, a = some b → w.heap.size ≤ b.block) : SL B w0 w' (pRd c sz a cap l :: L) := by
 by_cases hl : l = []
 ·exact h.new (pRd c sz a cap l) (b := none) (grown_of_below hb) ⟨hR, .inl ⟨hl, rfl⟩⟩ (fun k e => by cases e)
 ·have hp : 0 < l.length := List.length_pos_iff.2 hl
  obtain ⟨b, o, e, hc⟩ := hR.cells hsz (l[0]) 0 hp
  have hz : 0 < (c (l.getD 0 l[0])).cells.toList.length := by have := hR.1 (l.getD 0 l[0]); rw [Array.length_toList, this]; exact hsz
  have h1 : (c (l.getD 0 l[0])).cells.toList[0]? = some ((c (l.getD 0 l[0])).cells.toList[0]'hz) := List.getElem?_eq_getElem hz
  have hlt := World.block_lt_of_cell? w' _ (hc 0 _ h1)
  subst e
  exact h.new (pRd c sz (some ⟨b, o, none⟩) cap l) (b := some b) (grown_of_below hb) ⟨hR, .inr ⟨_, rfl, rfl, hlt⟩⟩ (fun k e => by cases e; exact hf _ rfl)
theorem SL.rdR {α : Type} {c : α → Value} {sz : Nat} {B : Nat} {w0 w : World} {L : List Pc} {a : Option Addr} {cap : Nat} {l : List α} (h : SL B w0 w L) (i : Nat) (hi : L[i]? = some (pRd c sz a cap l)) : Reps c sz w a cap l := by
 obtain ⟨b, h1, _, _⟩ := h.upd i hi
 exact h1.1
end Go.Proofs.YtddkdgodgflmlaaGreatDoor

namespace Go.Proofs.YtddkdgodgflmlaaGreatDoor
open Go.RowKit
set_option maxHeartbeats 8000000
set_option maxRecDepth 100000

theorem mPeriod_any (m : MacV) (ad : Option Addr) (cap : Nat) (w : World) (hR : Ints w ad cap m.sw) (HK : ChkM m ad cap) (hIt : ∀ w', Below w.heap.size w w' → ItoaOk w' (periodN (permM m))) :
  Calls Tryz.prog 20 #[mV m ad cap] w fun r w' => r = .returned (.tuple #[.string (if macE m = 0 then perS (permM m) else ⟨#[]⟩), .int .i64 (macE m)]) ∧ Below w.heap.size w w' := by
 have hS := (SL.nil w).box (.cells (mC m ad cap) 45)
 by_cases he : macE m = 0
 ·have hok := (macE_zero he).1
  have hlo := hok.lo
  have hhi := hok.hi
  have CP := fun w h => mperm_any m ad cap w h hok.lo hok.hi
  have HP := hid CP
  have hpl := permM_len m
  have hpe : permE (permM m) = 0 := permE_ok (permM_isP m) (by omega)
  have CQ := fun a c w h h2 => Period_any a c (permM m) w h (by
   intro x hx
   obtain ⟨i, hi, rfl⟩ := List.mem_iff_getElem.1 hx
   have h1 := (permM_isP m).1 i (by omega) (by omega)
   have e : atD 0 (permM m) i = (permM m)[i] := by simp [atD, hi]
   rw [e] at h1
   unfold InI; omega) (by omega) (fun _ => h2)
  rw [hpe] at CQ
  obtain ⟨S, hSS⟩ : ∃ S, S = perS (permM m) := ⟨_, rfl⟩
  rw [← hSS] at CQ ⊢
  rw [if_pos he]
  unfold ChkM at HK
  rw [he] at HK ⊢
  have HC := hid HK; have HQ := hid CQ
  clear CP HK he hok CQ hSS hpe
  go_enter Tryz.func20, Tryz.ntmps20
  go_wp2_with fail
  refine (HC.out _ (hR.below hS.b)).mono ?_
  rintro e w1 ⟨rfl, b1⟩
  have hS1 := hS.mono b1
  have q1 := (hS1.blk 0 rfl).1
  go_wp2_with (with_reducible refine wpList_ldS (n := 4) (us := mC m ad cap) A_mach kR wU wU (by assumption) wU wU ?_)
  refine (HP.out _ (hR.below hS1.b)).mono ?_
  rintro e w2 ⟨v, rfl, ho, b2⟩
  obtain ⟨ap, cp, rfl, hp, _, _⟩ := ho.reps
  have t2 := bnext hS1.b b2
  have HI := hid (hIt _ t2)
  clear hIt
  obtain ⟨P, hP⟩ : ∃ P, P = permM m := ⟨_, rfl⟩
  rw [← hP] at hp HI HQ ⊢
  clear hP
  go_wp2_with fail
  refine (HQ.out _ _ _ hp HI.out).mono ?_
  rintro e w3 ⟨rfl, b3⟩
  go_wp2_with fail
  go_ret2
  exact ⟨rfl, bnext t2 b3⟩
 ·have hne : (macE m != 0) = true := by simpa using he
  obtain ⟨E, hE⟩ : ∃ E, E = macE m := ⟨_, rfl⟩
  rw [if_neg he]
  unfold ChkM at HK
  rw [← hE] at HK hne ⊢
  have HC := hid HK
  clear HK he hE
  go_enter Tryz.func20, Tryz.ntmps20
  go_wp2_with fail
  refine (HC.out _ (hR.below hS.b)).mono ?_
  rintro e w1 ⟨rfl, b1⟩
  have hS1 := hS.mono b1
  go_wp2_with fail
  go_ret2
  exact ⟨rfl, hS1.b⟩
end Go.Proofs.YtddkdgodgflmlaaGreatDoor

namespace Go.Proofs.YtddkdgodgflmlaaGreatDoor
set_option maxRecDepth 100000

/-- the carriers after some steps. -/
noncomputable def atL (m : MacV) (l : List Int) (k : Nat) : List Int := l.map fun s => itM m s k
end Go.Proofs.YtddkdgodgflmlaaGreatDoor

namespace Go.Proofs.YtddkdgodgflmlaaGreatDoor
open Go.RowKit
set_option maxHeartbeats 8000000
set_option maxRecDepth 100000

theorem SL.madeB {B : Nat} {w0 w : World} {L : List Pc} (h : SL B w0 w L) : SL B w0 (w.alloc (.map #[] 0)) (pMapB w.heap.size 0 (fun _ => false) :: L) :=
 h.new _ (b := some w.heap.size) (World.grownBy_alloc w _ .none) ⟨rfl, mapB_made w⟩ (fun k e => by cases e; exact Nat.le_refl _)
theorem orbK_len2 (p : List Int) (i : Int) (j : Nat) : (orbK p i j).length = j := by simp [orbK]

theorem mPaths_any (m : MacV) (ad : Option Addr) (cap : Nat) (w : World) (hR : Ints w ad cap m.sw) (HK : ChkM m ad cap) :
  Calls Tryz.prog 19 #[mV m ad cap] w fun r w' => ∃ (v : Value) (qs : List (SlH × List Int)), r = .returned (.tuple #[v, .int .i64 (macE m)]) ∧ qs.map Prod.snd = (if macE m = 0 then cycK (permM m) (permM m).length else []) ∧ SL w.heap.size w w' (pOwn cSl 1 22 v (qs.map Prod.fst) :: qs.map inP) := by
 have hS := (SL.nil w).box (.cells (mC m ad cap) 45)
 have R1 := hR.below hS.b
 unfold ChkM at HK
 by_cases he : macE m = 0
 ·have hok := (macE_zero he).1
  have hlo := hok.lo
  have hhi := hok.hi
  have hp := permM_isP m
  have hpl := permM_len m
  obtain ⟨N, hN⟩ : ∃ N : Nat, (permM m).length = N := ⟨_, rfl⟩
  have hN4 : 4 * m.gears = N := by omega
  have CS := fun w => slots_any m ad cap w (by omega) hhi
  rw [hN4] at CS
  have CN := fun (s : Int) (k : Nat) w (h : Ints w ad cap m.sw) (h0 : 0 ≤ s) (h1 : s < N) => mnext_any m ad cap (itM m s k) w h hhi (itM_rng h0 (by omega) k).1 (itM_rng h0 (by omega) k).2
  have CE := fun (s : Int) (k : Nat) (h0 : 0 ≤ s) (h1 : s < N) => itM_succ (m := m) h0 (by omega) k
  have hN64 : N ≤ 64 := by omega
  rw [if_pos he, hN]
  rw [he] at HK ⊢
  obtain ⟨p, hpp⟩ : ∃ p, p = permM m := ⟨_, rfl⟩
  have CI : ∀ s k, itM m s k = itP p s k := by intro s k; rw [hpp]; rfl
  rw [← hpp] at hp hN ⊢
  have hmm := @run_makeMap Tryz.prog
  have HC := hid HK; have HS := hid CS; have HN := hid CN; have HE := hid CE; have HI := hid CI
  clear HK CS CN CE CI hok he hpl hpp
  go_enter Tryz.func19, Tryz.ntmps19
  go_wp2_with fail
  refine (HC.out _ R1).mono ?_
  rintro e w1 ⟨rfl, b1⟩
  have hS1 := hS.mono b1
  have q1 := (hS1.blk 0 rfl).1
  have hS2 := (hS1.madeB).nilS (α := SlH) (c := cSl) (sz := 1) (e := 22) cSlS
  have q2 := (hS2.blk 2 rfl).1
  obtain ⟨M, hM⟩ : ∃ M, M = w1.heap.size := ⟨_, rfl⟩
  go_wp2_with (with_reducible refine wpList_ldS (n := 4) (us := mC m ad cap) A_mach kR wU wU (by assumption) wU wU ?_)
  rw [← hM] at hS2 ⊢
  clear hM
  refine (HS.out _).mono ?_
  rintro e w3 ⟨rfl, b3⟩
  have hS3 := hS2.mono b3
  clear q1 q2 hmm
  go_wp2_with fail
  go_loopw [6, 18] (fun ov i wr => ∃ (k n : Nat) (f : Int → Bool) (qs : List (SlH × List Int)), k ≤ N ∧ i = .int .i64 k ∧ n ≤ 64 * k ∧ (∀ x : Int, 0 ≤ x → x < N → f x = decide (x ∈ (cycK p k).flatten)) ∧ qs.map Prod.snd = cycK p k ∧ SL w.heap.size w wr (pOwn cSl 1 22 ov (qs.map Prod.fst) :: pMapB M n f :: pBlk w.heap.size (.cells (mC m ad cap) 45) :: qs.map inP)) (fun _ i _ => N - (intOf i).toNat)
  case atStart => exact ⟨0, 0, fun _ => false, [], by omega, rfl, by omega, fun x h0 h1 => by simp [cycK], rfl, hS3⟩
  case round =>
   clear hS3 hS1 hS2 hS
   obtain ⟨k, n, f, qs, hk, rfl, hnk, hsn, hqs, hSL⟩ := hrel
   have HSN := hid hsn; have HQ := hid hqs
   have hql : qs.length ≤ k := by have := cycK_len p k; rw [← hqs] at this; simpa using this
   have hqlen : (qs.map Prod.fst).length ≤ 64 := by simp; omega
   clear hsn hqs
   by_cases hlt : k < N
   ·have hk0 : (0 : Int) ≤ k := by omega
    have hk1 : (k : Int) < p.length := by omega
    have hkN : k < p.length := by omega
    have hkI : InI (k : Int) := by unfold InI; omega
    have hmB := hSL.mapB 1 rfl
    have hsk := HSN.out k hk0 (by omega)
    by_cases hin : (k : Int) ∈ (cycK p k).flatten
    ·rw [decide_eq_true hin] at hsk
     have HSK := hid hsk; have HIN := hid hin
     clear hsk hin
     go_wp2_with ((with_reducible refine wpList_lookB wU wU (hmB) (hkI) wU ?_); rw [HSK.out])
     refine ⟨⟨k + 1, n, f, qs, by omega, by go_num, by omega, ?_, ?_, hSL⟩, by simp [intOf]; omega⟩
     ·rw [cycK_in HIN.out]; exact HSN.out
     ·rw [cycK_in HIN.out]; exact HQ.out
    ·rw [decide_eq_false hin] at hsk
     obtain ⟨d, hd⟩ := ord_ex hp hk0 hk1
     have hd0 := hd.pos
     have hd1 := hd.le
     have HSK := hid hsk; have HIN := hid hin; have HD := hid hd
     clear hsk hin hd
     go_wp2_with ((with_reducible refine wpList_lookB wU wU (hmB) (hkI) wU ?_); rw [HSK.out])
     have hSc := hSL.nilS (α := Int) (c := cInt) (sz := 1) (e := 3) cIntS
     go_loopw [8, 9] (fun cv av wq => ∃ (j n' : Nat) (g : Int → Bool), j ≤ d ∧ av = .int .i64 (itP p k j) ∧ lenV cv = j ∧ n' ≤ 64 * k + j ∧ (∀ x : Int, 0 ≤ x → x < N → g x = (decide (x ∈ (cycK p k).flatten) || decide (x ∈ orbK p k j))) ∧ SL w.heap.size w wq (pOwn cInt 1 3 cv (orbK p k j) :: pOwn cSl 1 22 u6 (qs.map Prod.fst) :: pMapB M n' g :: pBlk w.heap.size (.cells (mC m ad cap) 45) :: qs.map inP)) (fun cv _ _ => d - lenV cv)
     case atStart => exact ⟨0, n, f, by omega, rfl, rfl, by omega, fun x h0 h1 => by rw [HSN.out x h0 h1]; simp [orbK], hSc⟩
     case round =>
      clear hSc hmB hSL
      obtain ⟨j, n', g, hj, rfl, hlv, hn', hgs, hSq⟩ := hrel
      have HLV := hid hlv; have HGS := hid hgs
      clear hlv hgs
      obtain ⟨x0, x1⟩ := itP_rng hp hk0 hk1 j
      have hol := orbK_len2 p k j
      have hole : (orbK p k j).length ≤ 64 := by rw [hol]; omega
      have hat := HGS.out _ x0 (by omega)
      have hsuc := orbK_succ p k j
      have hXI : InI (itP p k j) := by unfold InI; omega
      have hmB := hSq.mapB 2 rfl
      have hmx : n' < maxLen := by unfold maxLen; omega
      obtain ⟨X, hX⟩ : ∃ X, X = itP p k j := ⟨_, rfl⟩
      have C := fun w h => HN.out (k : Int) j w h hk0 (by omega)
      rw [← HE.out (k : Int) j hk0 (by omega), HI.out, HI.out, ← hX] at C
      have HSU := hid hsuc; have HOL := hid hol; have HC := hid C
      clear hol hsuc C
      by_cases hjd : j < d
      ·have hf1 := orbK_out hp hkN HIN.out HD.out hj
       have hf2 := orbK_new hp hk0 hk1 HD.out hjd
       rw [decide_eq_false hf1, decide_eq_false hf2] at hat
       rw [← hX] at hat hXI x0 x1 HSU ⊢
       have HAT := hid hat
       clear hat hf1 hf2 hX
       go_wp2_with (first | ((with_reducible refine wpList_lookB wU wU (hmB) (hXI) wU ?_); rw [HAT.out]) | ((with_reducible refine wpList_putBL 2 wU wU wU (hSq) wU (hXI) (hmx) ?_); intro w4 hS4) | (((with_reducible refine wpList_pushL (y := X) 0 E_ints wU wU (hS4) wU cIntO ⟨rfl, rfl⟩ (by first | with_unfolding_all rfl | simp) wU (by first | omega | (simp; omega)) (by first | omega | (simp; omega)) ?_); intro v5 w5 hS5); have q5 := (hS5.blk 3 rfl).1) | (with_reducible refine wpList_ldS (n := 4) (us := mC m ad cap) A_mach kR wU wU (by assumption) wU wU ?_))
       refine (HC.out _ (hR.below hS5.b)).mono ?_
       rintro e w6 ⟨rfl, b6⟩
       have hS6 := hS5.mono b6
       obtain ⟨a5, c5, e5, _⟩ := hS6.slice 0 rfl
       have hl5 : lenV v5 = j + 1 := by rw [e5]; show (orbK p k j ++ [X]).length = j + 1; rw [List.length_append, HOL.out]; rfl
       clear e5
       have HL5 := hid hl5
       clear hl5
       go_wp2_with fail
       have hl5 := HL5.out
       refine ⟨⟨j + 1, n' + 1, fun x => if x = X then true else g x, by omega, rfl, hl5, by omega, ?_, by rw [HSU.out]; exact hS6⟩, by rw [hl5, HLV.out]; omega⟩
       intro x h0 h1
       rw [HSU.out]
       by_cases e : x = X
       ·simp [e]
       ·simp only [e, if_false]
        rw [HGS.out x h0 h1]
        simp [e]
      ·have hjj : j = d := by omega
       subst hjj
       have hxd : itP p k j = k := HD.out.back
       have hmem : itP p k j ∈ orbK p k j := by rw [hxd]; exact List.mem_map.2 ⟨0, by simp [hd0], rfl⟩
       rw [decide_eq_true hmem, Bool.or_true] at hat
       have HAT := hid hat; have HXD := hid hxd
       clear hat hmem
       obtain ⟨al, cl, rfl, _⟩ := hSq.slice 0 rfl
       rw [← hX] at hXI HAT HXD ⊢
       go_wp2_with (first | ((with_reducible refine wpList_lookB wU wU (hmB) (hXI) wU ?_); rw [HAT.out]) | ((with_reducible refine wpList_pushL (y := ((al, (orbK p k j).length, cl) : SlH)) 1 E_sls wU wU (hSq) wU cSlO ⟨rfl, rfl⟩ (by first | with_unfolding_all rfl | simp) wU (by first | omega | (simp; omega)) (by first | omega | (simp; omega)) ?_); intro v4 w4 hP))
       refine ⟨⟨k + 1, n', g, qs ++ [((al, (orbK p k j).length, cl), orbK p k j)], by omega, by go_num, by omega, ?_, ?_, ?_⟩, by simp [intOf]; omega⟩
       ·intro x h0 h1
        rw [HGS.out x h0 h1, cycK_out HIN.out, orb_eq HD.out]
        simp [orbK]
       ·rw [List.map_append, HQ.out, cycK_out HIN.out, orb_eq HD.out]; rfl
       ·have hP2 := SL.pickA (K := [_, _, _, _]) (M := qs.map inP) hP [1, 2, 3, 0] (by decide) (by simp) [_, _, _, _] rfl
        refine hP2.perm ?_
        rw [List.map_append, List.map_append]
        refine List.Perm.cons _ (List.Perm.cons _ (List.Perm.cons _ ?_))
        exact List.perm_append_comm (l₁ := [_])
   ·have hkn : k = N := by omega
    subst hkn
    go_wp2_with fail
    go_ret2
    refine ⟨_, qs, rfl, HQ.out, ?_⟩
    exact (SL.comm (K := [_]) (L := qs.map inP) (SL.pickA (K := [_, _, _]) (M := qs.map inP) hSL [0] (by decide) (by simp) [_] rfl)).comm
 ·obtain ⟨E, hE⟩ : ∃ E, E = macE m := ⟨_, rfl⟩
  rw [if_neg he]
  rw [← hE] at HK he ⊢
  have hne : (E != 0) = true := by simpa using he
  have HC := hid HK
  clear HK he hE
  go_enter Tryz.func19, Tryz.ntmps19
  go_wp2_with fail
  refine (HC.out _ R1).mono ?_
  rintro e w1 ⟨rfl, b1⟩
  have hS1 := (hS.mono b1).nilS (α := SlH) (c := cSl) (sz := 1) (e := 22) cSlS
  go_wp2_with fail
  go_ret2
  exact ⟨_, [], rfl, rfl, hS1.pick [0] (by decide) _ rfl⟩
end Go.Proofs.YtddkdgodgflmlaaGreatDoor

namespace Go.Proofs.YtddkdgodgflmlaaGreatDoor
open Go.RowKit
set_option maxHeartbeats 8000000
set_option maxRecDepth 100000

/-- a crossing as it is told. -/
def cX (c : CrM) : Value := .agg #[.int .i64 c.gear, .int .i64 c.over, .int .i64 c.under]
attribute [go_sem] cX
end Go.Proofs.YtddkdgodgflmlaaGreatDoor

namespace Go.Proofs.YtddkdgodgflmlaaGreatDoor
open Go.RowKit
set_option maxHeartbeats 8000000
set_option maxRecDepth 100000

theorem atL_len (m : MacV) (l : List Int) (k : Nat) : (atL m l k).length = l.length := by simp [atL]
section
variable {ops : Array Oper} {rest : List Oper} {a : Act} {Q : Exit → Act → World → Prop} {w : World} {ty : TypeId} {p : String} {af : Array Edge}
end

end Go.Proofs.YtddkdgodgflmlaaGreatDoor

namespace Go.Proofs.YtddkdgodgflmlaaGreatDoor
open Go.RowKit
set_option maxHeartbeats 1000000
set_option maxRecDepth 100000

theorem decD_small {u : Nat} (h : u < 10) : Lib.decDigits u = [UInt8.ofNat (48 + u)] := by rw [Lib.decDigits, dif_pos h]
theorem decD_big {u : Nat} (h : ¬ u < 10) : Lib.decDigits u = Lib.decDigits (u / 10) ++ [UInt8.ofNat (48 + u % 10)] := by rw [Lib.decDigits, dif_neg h]
theorem itoaB_nat (u : Nat) : itoaB (u : Int) = ⟨(Lib.decDigits u).toArray⟩ := by unfold itoaB; rw [Lib.itoa_nonneg]
theorem digB {d : Nat} (h : d < 10) : (UInt8.ofNat (48 + d)).toNat = 48 + d := by
 rw [UInt8.toNat_ofNat']; omega
theorem decD_dig (u : Nat) : ∀ b ∈ Lib.decDigits u, 48 ≤ b.toNat ∧ b.toNat ≤ 57 := by
 induction u using Nat.strongRecOn with
 | _ u ih =>
  by_cases h : u < 10
  ·rw [decD_small h]; intro b hb
   simp only [List.mem_singleton] at hb
   subst hb; rw [digB h]; omega
  ·rw [decD_big h]; intro b hb
   rcases List.mem_append.1 hb with hb | hb
   ·exact ih (u / 10) (by omega) b hb
   ·simp only [List.mem_singleton] at hb
    subst hb; rw [digB (Nat.mod_lt _ (by decide))]; omega
theorem decD_pos (u : Nat) : 0 < (Lib.decDigits u).length := by
 by_cases h : u < 10
 ·rw [decD_small h]; simp
 ·rw [decD_big h]; simp
theorem decD_len : ∀ (k u : Nat), u < 10 ^ (k + 1) → (Lib.decDigits u).length ≤ k + 1
 | 0, u, h => by rw [decD_small (by simpa using h)]; simp
 | k + 1, u, h => by
   by_cases h1 : u < 10
   · rw [decD_small h1]; simp
   · rw [decD_big h1]
     have := decD_len k (u / 10) (by rw [Nat.pow_succ] at h; omega)
     simp; omega
/-- the number that digits give. -/
def valL (l : List UInt8) : Nat := l.foldl (fun n b => 10 * n + (b.toNat - 48)) 0
theorem valL_snoc (l : List UInt8) (b : UInt8) : valL (l ++ [b]) = 10 * valL l + (b.toNat - 48) := by simp [valL]
theorem valL_dec (u : Nat) : valL (Lib.decDigits u) = u := by
 induction u using Nat.strongRecOn with
 | _ u ih =>
  by_cases h : u < 10
  ·rw [decD_small h]
   show 10 * 0 + ((UInt8.ofNat (48 + u)).toNat - 48) = u
   rw [digB h]; omega
  ·rw [decD_big h, valL_snoc, ih (u / 10) (by omega), digB (Nat.mod_lt _ (by decide))]; omega
theorem valL_take {l : List UInt8} {k : Nat} (h : k < l.length) : valL (l.take (k + 1)) = 10 * valL (l.take k) + (l[k].toNat - 48) := by
 rw [List.take_succ_eq_append_getElem h, valL_snoc]
theorem valL_lt (l : List UInt8) (h : ∀ b ∈ l, 48 ≤ b.toNat ∧ b.toNat ≤ 57) : ∀ k, k ≤ l.length → valL (l.take k) < 10 ^ k
 | 0, _ => by simp [valL]
 | k + 1, hk => by
   rw [valL_take (by omega), Nat.pow_succ]
   have h1 := valL_lt l h k (by omega)
   have h2 := h l[k] (List.getElem_mem _)
   omega

def bT (l : List UInt8) : ByteArray := ⟨l.toArray⟩
theorem bT_size (l : List UInt8) : (bT l).size = l.length := rfl
theorem bT_app (l m : List UInt8) : bT l ++ bT m = bT (l ++ m) := by unfold bT; rw [ByteArray.mk_append_mk]; try simp
theorem bT_at {l : List UInt8} {k : Nat} (h : k < l.length) : byteAt (bT l) k = (l[k].toNat : Int) := by
 rw [byteAt_in (by rw [bT_size]; exact h), ByteArray.getElem_eq_getElem_data]
 simp [bT]
theorem itoaB_bT (u : Nat) : itoaB (u : Int) = bT (Lib.decDigits u) := itoaB_nat u

def textQ (p q : Nat) : ByteArray := if q = 1 then itoaB (p : Int) else itoaB (p : Int) ++ ⟨#[47]⟩ ++ itoaB (q : Int)
def textQL (p q : Nat) : List UInt8 := if q = 1 then Lib.decDigits p else Lib.decDigits p ++ 47 :: Lib.decDigits q
theorem textQ_bT (p q : Nat) : textQ p q = bT (textQL p q) := by
 unfold textQ textQL
 split
 ·exact itoaB_bT p
 ·rw [itoaB_bT, itoaB_bT, show (⟨#[47]⟩ : ByteArray) = bT [47] from rfl, bT_app, bT_app]; simp
theorem textQ_one (p : Nat) : textQ p 1 = itoaB (p : Int) := by unfold textQ; rw [if_pos rfl]
theorem itoaB_len {p : Nat} (hp : p < 1000000000) : (itoaB (p : Int)).size ≤ 9 ∧ 0 < (itoaB (p : Int)).size := by
 have h1 := decD_len 8 p hp
 have h3 := decD_pos p
 rw [itoaB_bT, bT_size]; omega
/-- the place of the slash, or the length. -/
structure SlashAt (s : ByteArray) (k : Nat) : Prop where
 le : k ≤ s.size
 no : ∀ j : Nat, j < k → byteAt s j ≠ 47
 yes : k < s.size → byteAt s k = 47
theorem textQ_pre {p q j : Nat} (h : j < (itoaB (p : Int)).size) : 48 ≤ byteAt (textQ p q) j ∧ byteAt (textQ p q) j ≤ 57 := by
 rw [itoaB_bT, bT_size] at h
 have hl : j < (textQL p q).length := by
  unfold textQL; split
  ·exact h
  ·simp; omega
 have e : (textQL p q)[j] = (Lib.decDigits p)[j] := by
  have : (textQL p q)[j]? = (Lib.decDigits p)[j]? := by
   unfold textQL; split
   ·rfl
   ·rw [List.getElem?_append_left h]
  rw [List.getElem?_eq_getElem hl, List.getElem?_eq_getElem h] at this
  exact Option.some.inj this
 rw [textQ_bT, bT_at hl, e]
 have := decD_dig p _ (List.getElem_mem h)
 omega
theorem textQ_slash (p q : Nat) : SlashAt (textQ p q) (itoaB (p : Int)).size := by
 refine ⟨?_, fun j hj => by have := (textQ_pre (q := q) hj).1; omega, ?_⟩
 ·rw [textQ_bT, bT_size, itoaB_bT, bT_size]; unfold textQL; split
  ·exact Nat.le_refl _
  ·simp
 ·intro h
  rw [textQ_bT, bT_size, itoaB_bT, bT_size] at h
  rw [textQ_bT, itoaB_bT, bT_size, bT_at h]
  have : (textQL p q)[(Lib.decDigits p).length] = 47 := by
   unfold textQL at h ⊢
   split at h
   ·omega
   ·rename_i h1
    simp [h1]
  rw [this]; rfl
theorem itoaB_dig {p k : Nat} (h : k < (itoaB (p : Int)).size) : 48 ≤ byteAt (itoaB (p : Int)) k ∧ byteAt (itoaB (p : Int)) k ≤ 57 := by
 have := textQ_pre (p := p) (q := 1) h
 rwa [textQ_one] at this

theorem wD_len (n : Nat) : (wD n).length ≤ 1 := by unfold wD; split <;> simp
theorem wD_pos {n : Nat} (h : 0 < n) : wD n = [(n : Int)] := by unfold wD; rw [if_neg (by omega)]
end Go.Proofs.YtddkdgodgflmlaaGreatDoor

namespace Go.Proofs.YtddkdgodgflmlaaGreatDoor
open Go.RowKit
set_option maxHeartbeats 2000000
set_option maxRecDepth 100000

theorem rslash_any (s : ByteArray) (K : Nat) (w : World) (h : SlashAt s K) (hz : s.size ≤ 1048576) :
  Calls Tryz.prog 74 #[.string s] w fun r w' => r = .returned (.int .i64 K) ∧ w = w' := by
 have h1 := h.le
 have HN := hid h.no; have HY := hid h.yes
 clear h
 go_enter Tryz.func74, Tryz.ntmps74
 go_wp2_with fail
 go_loopw [3] (fun i wr => ∃ k : Nat, k ≤ K ∧ i = .int .i64 k ∧ w = wr) (fun i _ => s.size - (intOf i).toNat)
 case atStart => exact ⟨0, by omega, rfl, rfl⟩
 case round =>
  obtain ⟨k, hk, rfl, rfl⟩ := hrel
  by_cases hlt : k < s.size
  ·have hb := byteAt_in hlt
   by_cases e : k = K
   ·subst e
    have hy := HY.out hlt
    rw [hb] at hy
    have d1 : (((s[k]'hlt).toNat : Int) == 47) = true := by simpa using hy
    clear hy hb
    go_wp2_with fail
    go_ret
    exact ⟨rfl, rfl⟩
   ·have hn := HN.out k (by omega)
    rw [hb] at hn
    have d1 : (((s[k]'hlt).toNat : Int) == 47) = false := by simpa using hn
    clear hn hb
    go_wp2_with fail
    exact ⟨⟨k + 1, by omega, by go_num, by trivial⟩, by simp [intOf]; omega⟩
  ·have : k = K := by omega
   subst this
   have e : k = s.size := by omega
   have HE := hid e; clear e
   go_wp2_with fail
   go_ret
   exact ⟨by rw [← HE.out]; rfl, rfl⟩

theorem rvalue_any (p : Nat) (w : World) (hp : p < 1000000000) :
  Calls Tryz.prog 124 #[.string (itoaB p)] w fun r w' => r = .returned (.int .i64 p) ∧ w = w' := by
 have hz := (itoaB_len hp).1
 have hdig := fun k (h : k < (itoaB (p : Int)).size) => itoaB_dig (p := p) h
 have hval : ∀ k : Nat, k ≤ (itoaB (p : Int)).size → valL ((Lib.decDigits p).take k) < 10 ^ k := fun k hk => valL_lt _ (decD_dig p) k (by rw [itoaB_bT, bT_size] at hk; exact hk)
 have hstep : ∀ (k : Nat) (h : k < (itoaB (p : Int)).size), (valL ((Lib.decDigits p).take (k + 1)) : Int) = 10 * valL ((Lib.decDigits p).take k) + (((itoaB (p : Int))[k]'h).toNat : Int) - 48 := by
  intro k h
  have h2 : k < (Lib.decDigits p).length := by rw [itoaB_bT, bT_size] at h; exact h
  have h3 := decD_dig p _ (List.getElem_mem h2)
  have h4 : (((itoaB (p : Int))[k]'h).toNat : Int) = ((Lib.decDigits p)[k].toNat : Int) := by
   rw [← byteAt_in h]
   simp only [itoaB_bT]
   rw [bT_at h2]
  rw [h4, valL_take h2]; omega
 have hend : valL ((Lib.decDigits p).take (itoaB (p : Int)).size) = p := by
  rw [itoaB_bT, bT_size, List.take_of_length_le (Nat.le_refl _), valL_dec]
 obtain ⟨s, hs⟩ : ∃ s, s = itoaB (p : Int) := ⟨_, rfl⟩
 have hbig : ∀ k : Nat, k ≤ 9 → 10 ^ k ≤ 1000000000 := fun k hk => by
  have := Nat.pow_le_pow_right (n := 10) (by decide) hk
  simpa using this
 obtain ⟨vl, hvl⟩ : ∃ vl : Nat → Nat, vl = fun k => valL ((Lib.decDigits p).take k) := ⟨_, rfl⟩
 have hval2 : ∀ k : Nat, k ≤ s.size → vl k < 1000000000 := fun k hk => by
  rw [hs] at hk; rw [hvl]
  exact Nat.lt_of_lt_of_le (hval k hk) (hbig k (by omega))
 have hstep2 : ∀ (k : Nat) (h : k < s.size), (vl (k + 1) : Int) = 10 * vl k + ((s[k]'h).toNat : Int) - 48 := by subst hs; subst hvl; exact hstep
 have hend2 : vl s.size = p := by subst hs; subst hvl; exact hend
 have hdig2 : ∀ k (h : k < s.size), 48 ≤ byteAt s k ∧ byteAt s k ≤ 57 := by subst hs; exact hdig
 have h02 : vl 0 = 0 := by subst hvl; rfl
 rw [← hs] at hz ⊢
 have HV := hid hval2; have HS := hid hstep2; have HE := hid hend2; have HD := hid hdig2; have H0 := hid h02
 clear hval2 hstep2 hend2 hdig2 h02 hval hstep hend hdig hbig hs hvl
 go_enter Tryz.func124, Tryz.ntmps124
 go_wp2_with fail
 go_loopw [3, 4] (fun nv i wr => ∃ k : Nat, k ≤ s.size ∧ i = .int .i64 k ∧ nv = .int .i64 (vl k) ∧ w = wr) (fun _ i _ => s.size - (intOf i).toNat)
 case atStart => exact ⟨0, by omega, rfl, by rw [H0.out]; rfl, rfl⟩
 case round =>
  obtain ⟨k, hk, rfl, rfl, rfl⟩ := hrel
  have hv := HV.out k hk
  by_cases hlt : k < s.size
  ·have hd := HD.out k hlt
   rw [byteAt_in hlt] at hd
   have hst := HS.out k hlt
   have HST := hid hst; clear hst
   go_wp2_with fail
   exact ⟨⟨k + 1, by omega, by go_num, by rw [HST.out]; try (congr 1; omega), by trivial⟩, by simp [intOf]; omega⟩
  ·have : k = s.size := by omega
   subst this
   go_wp2_with fail
   go_ret
   exact ⟨by rw [HE.out]; rfl, rfl⟩

end Go.Proofs.YtddkdgodgflmlaaGreatDoor

namespace Go.Proofs.YtddkdgodgflmlaaGreatDoor
open Go.RowKit
set_option maxHeartbeats 2000000
set_option maxRecDepth 100000

theorem A_integer : Aggr Tryz.prog 114 := ⟨_, Tryz.underlying114, rfl⟩
theorem ints_empty (w : World) (b o cap : Nat) (h : cap ≤ 9223372036854775807) : Ints w (some ⟨b, o, none⟩) cap [] := ⟨cIntS, Nat.zero_le _, by unfold maxLen; omega, fun e => (by cases e), fun j u hu => (by simp at hu)⟩
theorem wd_ints {w : World} {a : Option Addr} {cap x : Nat} (hS : Ints w a cap [(x : Int)]) : Ints w a cap (wD x) := by
 by_cases hx : x = 0
 ·subst hx
  obtain ⟨b, o, rfl, _⟩ := hS.cells (by decide) 0 0 (by simp)
  exact ints_empty _ _ _ _ hS.max
 ·rw [wD_pos (by omega)]; exact hS
theorem rtrim_any (x : Nat) (a : Option Addr) (cap : Nat) (w : World) (hS : Ints w a cap [(x : Int)]) :
  Calls Tryz.prog 166 #[.slice a 1 cap] w fun r w' => r = .returned (.slice a (wD x).length cap) ∧ w = w' := by
 have hcap := hS.le
 have hm0 := hS.max
 simp only [List.length_cons, List.length_nil] at hcap
 obtain ⟨b, o, rfl, hc⟩ := hS.cells (by decide) 0 0 (by simp)
 have hc := hc 0 (.int .i64 x) rfl
 simp only [Nat.mul_one, Nat.add_zero, Nat.zero_mul] at hc
 by_cases hx : x = 0
 ·subst hx
  go_enter Tryz.func166, Tryz.ntmps166
  go_wp2_with fail
  go_loopw [0] (fun v wr => (v = .slice (some ⟨b, o, none⟩) 1 cap ∨ v = .slice (some ⟨b, o, none⟩) 0 cap) ∧ w = wr) (fun v _ => lenV v)
  case atStart => exact ⟨.inl rfl, rfl⟩
  case round =>
   obtain ⟨rfl | rfl, rfl⟩ := hrel
   ·go_wp2_with fail
    exact ⟨⟨.inr rfl, by trivial⟩, by simp [lenV]⟩
   ·go_wp2_with fail
    go_ret
    exact ⟨rfl, rfl⟩
 ·have hxi : ((x : Int) == 0) = false := by simp; omega
  have hw : wD x = [(x : Int)] := wD_pos (by omega)
  rw [hw]
  clear hw
  go_enter Tryz.func166, Tryz.ntmps166
  go_wp2_with fail
  go_loopw [0] (fun v wr => v = .slice (some ⟨b, o, none⟩) 1 cap ∧ w = wr) (fun v _ => 0)
  case atStart => exact ⟨rfl, rfl⟩
  case round =>
   obtain ⟨rfl, rfl⟩ := hrel
   go_wp2_with fail
   go_ret
   exact ⟨rfl, rfl⟩
theorem rsigned_any (x : Nat) (a : Option Addr) (cap : Nat) (w : World) (hS : Ints w a cap [(x : Int)]) :
  Calls Tryz.prog 125 #[.bool false, .slice a 1 cap] w fun r w' => r = .returned (.agg #[.bool false, .slice a (wD x).length cap]) ∧ Below w.heap.size w w' := by
 have CT := fun w (hS : Ints w a cap [(x : Int)]) => rtrim_any x a cap w hS
 have HT := hid CT; clear CT
 have hl := wD_len x
 have hS0 := (SL.nil w).box (.cells #[.bool false, .slice none 0 0] 114)
 go_enter Tryz.func125, Tryz.ntmps125
 go_wp2_with fail
 refine (HT.out _ (hS.alloc _)).mono ?_
 rintro e w1 ⟨rfl, rfl⟩
 go_wp2_with ((with_reducible refine wpList_stoR (us := #[.bool false, .slice a (wD x).length cap]) 0 wU wU (hS0) wU kR wU wU ?_); intro w2 hS2)
 exact bodyPost_ret (results_cell rfl rfl A_integer kR (hS2.blk 0 rfl).1) rfl ⟨rfl, hS2.b⟩
theorem SL.ownB {α : Type} {c : α → Value} {sz B n cap : Nat} {e : TypeId} {w0 w : World} {L : List Pc} {a : Option Addr} {l : List α} (h : SL B w0 w L) (i : Nat) (hi : L[i]? = some (pOwn c sz e (.slice a n cap) l)) : ∀ b, a = some b → B ≤ b.block := by
 obtain ⟨b, hP, hB, _⟩ := h.upd i hi
 intro b' e1
 subst e1
 exact hB b'.block (hP.2.symm.trans rfl)
theorem rparse_any (x : Nat) (w : World) (hx : x < 1000000000) :
  Calls Tryz.prog 79 #[.string (itoaB x)] w fun r w' => ∃ a cap, r = .returned (.agg #[.bool false, .slice a (wD x).length cap]) ∧ Ints w' a cap (wD x) ∧ (∀ b, a = some b → w.heap.size ≤ b.block) ∧ Below w.heap.size w w' := by
 obtain ⟨z1, z2⟩ := itoaB_len hx
 have hd := itoaB_dig z2
 have CV := fun w => rvalue_any x w hx
 have CS := fun a cap w hS => rsigned_any x a cap w hS
 have HS := hid CS; clear CS
 obtain ⟨s, hs⟩ : ∃ s, s = itoaB (x : Int) := ⟨_, rfl⟩
 rw [← hs] at z1 z2 hd CV ⊢
 have HV := hid CV
 rw [byteAt_in z2] at hd
 have d1 : (((s[0]'z2).toNat : Int) == 45) = false := by simp; omega
 clear CV hs hd
 have hS0 := ((SL.nil w).box (.cells #[.bool false, .slice none 0 0] 114)).nilS (α := Int) (c := cInt) (sz := 1) (e := 3) cIntS
 go_enter Tryz.func79, Tryz.ntmps79
 go_wp2_with fail
 go_loopw [0, 4] (fun sv wv wr => sv = .string s ∧ wv = .slice none 0 0 ∧ SL w.heap.size w wr [pOwn cInt 1 3 (.slice none 0 0) [], pBlk w.heap.size (.cells #[.bool false, .slice none 0 0] 114)]) (fun _ _ _ => 0)
 case atStart => exact ⟨rfl, rfl, hS0⟩
 case round =>
  obtain ⟨rfl, rfl, hSL⟩ := hrel
  clear hS0
  have hl0 : ([] : List Int).length ≤ 5 := by simp
  go_wp2_with (first | (go_at_call 124; with_reducible refine (HV.out _).mono ?_; rintro e w' ⟨rfl, rfl⟩) | ((with_reducible refine wpList_pushL (y := (x : Int)) 0 E_ints wU wU (hSL) wU cIntO ⟨rfl, rfl⟩ (by first | with_unfolding_all rfl | simp) wU (by first | omega | (simp; omega)) (by first | omega | (simp; omega)) ?_); intro v3 w3 hS3))
  obtain ⟨a, cap, rfl, hR⟩ := hS3.slice 0 rfl
  go_wp2_with fail
  refine (HS.out a cap w3 hR).mono ?_
  rintro e w1 ⟨rfl, b1⟩
  have hSL1 := hS3.mono b1
  go_wp2_with ((with_reducible refine wpList_stoR (us := #[.bool false, .slice a (wD x).length cap]) 1 wU wU (hSL1) wU kR wU wU ?_); intro w2 hS2)
  exact bodyPost_ret (results_cell rfl rfl A_integer kR (hS2.blk 1 rfl).1) rfl ⟨a, cap, rfl, wd_ints (hS2.rd 0 rfl), hS2.ownB 0 rfl, hS2.b⟩

end Go.Proofs.YtddkdgodgflmlaaGreatDoor

namespace Go.Proofs.YtddkdgodgflmlaaGreatDoor
open Go.RowKit
set_option maxHeartbeats 2000000
set_option maxRecDepth 100000

end Go.Proofs.YtddkdgodgflmlaaGreatDoor

namespace Go.Proofs.YtddkdgodgflmlaaGreatDoor
open Go.RowKit
set_option maxHeartbeats 2000000
set_option maxRecDepth 100000

theorem decD_first {u : Nat} (h : 0 < u) : ∃ b r, Lib.decDigits u = b :: r ∧ 49 ≤ b.toNat ∧ b.toNat ≤ 57 := by
 induction u using Nat.strongRecOn with
 | _ u ih =>
  by_cases h10 : u < 10
  ·rw [decD_small h10]
   refine ⟨_, [], rfl, ?_⟩
   rw [digB h10]; omega
  ·rw [decD_big h10]
   obtain ⟨b, r, e, h1, h2⟩ := ih (u / 10) (by omega) (by omega)
   rw [e]
   exact ⟨b, r ++ [UInt8.ofNat (48 + u % 10)], rfl, h1, h2⟩
theorem itoaB_first {p : Nat} (h : 0 < p) : 49 ≤ byteAt (itoaB (p : Int)) 0 ∧ byteAt (itoaB (p : Int)) 0 ≤ 57 := by
 obtain ⟨b, r, e, h1, h2⟩ := decD_first h
 rw [itoaB_bT, bT_at (k := 0) (by rw [e]; simp)]
 simp only [e, List.getElem_cons_zero]
 omega
theorem slashAt_none {s : ByteArray} (h : ∀ j, j < s.size → 48 ≤ byteAt s j ∧ byteAt s j ≤ 57) : SlashAt s s.size :=
 ⟨Nat.le_refl _, fun j hj => by have := h j hj; omega, fun h => absurd h (Nat.lt_irrefl _)⟩

theorem rDigits_any (s : ByteArray) (w : World) (hz : s.size ≤ 1048576) (hd : ∀ k, k < s.size → 48 ≤ byteAt s k ∧ byteAt s k ≤ 57) :
  Calls Tryz.prog 121 #[.string s] w fun r w' => r = .returned (.bool true) ∧ w = w' := by
 have HD := hid hd; clear hd
 go_enter Tryz.func121, Tryz.ntmps121
 go_wp2_with fail
 go_loopw [3] (fun i wr => ∃ k : Nat, k ≤ s.size ∧ i = .int .i64 k ∧ w = wr) (fun i _ => s.size - (intOf i).toNat)
 case atStart => exact ⟨0, by omega, rfl, rfl⟩
 case round =>
  obtain ⟨k, hk, rfl, rfl⟩ := hrel
  by_cases hlt : k < s.size
  ·have hb := HD.out k hlt
   rw [byteAt_in hlt] at hb
   have d1 : ¬ (((s[k]'hlt).toNat : Int) < 48) := by omega
   have d2 : ¬ (57 < ((s[k]'hlt).toNat : Int)) := by omega
   go_wp2_with fail
   exact ⟨⟨k + 1, by omega, by go_num, by trivial⟩, by simp [intOf]; omega⟩
  ·have : k = s.size := by omega
   subst this
   go_wp2_with fail
   go_ret
   exact ⟨rfl, rfl⟩
theorem rdecimalForm_any (p : Nat) (w : World) (h0 : 0 < p) (hp : p < 1000000000) :
  Calls Tryz.prog 75 #[.string (itoaB p)] w fun r w' => r = .returned (.bool true) ∧ w = w' := by
 obtain ⟨z3, z4⟩ := itoaB_len hp
 have hf := itoaB_first h0
 have CD := fun w => rDigits_any (itoaB (p : Int)) w (by omega) (fun k hk => itoaB_dig hk)
 obtain ⟨s, hs⟩ : ∃ s, s = itoaB (p : Int) := ⟨_, rfl⟩
 rw [← hs] at z3 z4 hf CD ⊢
 clear hs
 have z4' : 0 < s.size := z4
 rw [byteAt_in z4'] at hf
 have d1 : (((s[0]'z4').toNat : Int) == 48) = false := by simp; omega
 have HCD := hid CD; clear CD hf
 have d2 : ((s.size : Int) == 0) = false := beq_eq_false_iff_ne.2 (by omega)
 have d3 : ¬ s = ByteArray.empty := by rintro rfl; exact absurd z4 (by decide)
 go_enter Tryz.func75, Tryz.ntmps75
 by_cases h1 : 1 < s.size
 ·go_wp2_with fail
  refine (HCD.out _).mono ?_
  rintro e w' ⟨rfl, rfl⟩
  go_wp2_with fail
  go_ret
  exact ⟨rfl, rfl⟩
 ·go_wp2_with fail
  refine (HCD.out _).mono ?_
  rintro e w' ⟨rfl, rfl⟩
  go_wp2_with fail
  go_ret
  exact ⟨rfl, rfl⟩

theorem rCheck_any (p : Nat) (w : World) (h0 : 0 < p) (hp : p < 1000000000) :
  Calls Tryz.prog 27 #[.string (itoaB p)] w fun r w' => r = .returned (.int .i64 0) ∧ Below w.heap.size w w' := by
 obtain ⟨z3, z4⟩ := itoaB_len hp
 have hf := itoaB_first h0
 have CD := fun w => rdecimalForm_any p w h0 hp
 have CS := fun w => rslash_any (itoaB (p : Int)) _ w (slashAt_none (fun j hj => itoaB_dig hj)) (by omega)
 have hx : (itoaB (p : Int)).extract 0 (itoaB (p : Int)).size = itoaB (p : Int) := by rw [ByteArray.extract_zero_size]
 obtain ⟨s, hs⟩ : ∃ s, s = itoaB (p : Int) := ⟨_, rfl⟩
 rw [← hs] at z3 z4 hf CD CS hx ⊢
 clear hs
 have z4' : 0 < s.size := z4
 rw [byteAt_in z4'] at hf
 have d1 : (((s[0]'z4').toNat : Int) == 45) = false := by simp; omega
 have HCD := hid CD; have HCS := hid CS; have HX := hid hx; clear CD CS hf hx
 go_enter Tryz.func27, Tryz.ntmps27
 go_wp2_with fail
 refine (HCS.out _).mono ?_
 rintro e w' ⟨rfl, rfl⟩
 go_wp2_with fail
 refine (HCD.out _).mono ?_
 rintro e w' ⟨rfl, rfl⟩
 go_wp2_with fail
 go_ret
 exact ⟨rfl, Below.refl _ _⟩

end Go.Proofs.YtddkdgodgflmlaaGreatDoor

namespace Go.Proofs
open Go.Shelf
def Tryz.laysM171_ren : Go.Shelf.Ren := ⟨fun | 171 => 185 | 243 => 197 | 246 => 210 | 283 => 212 | 284 => 213 | 285 => 214 | 286 => 215 | 129 => 195 | 317 => 217 | 318 => 218 | 319 => 219 | 320 => 220 | 337 => 222 | 338 => 223 | n => n, fun | 3 => 3 | 9 => 9 | 2 => 2 | 4 => 4 | 171 => 243 | 0 => 0 | 53 => 195 | 37 => 169 | 5 => 5 | 173 => 245 | 212 => 247 | 51 => 208 | 20 => 20 | 213 => 248 | 46 => 164 | 232 => 251 | 233 => 252 | n => n, fun | 17 => 5 | 18 => 6 | 19 => 7 | n => n⟩
theorem Tryz.laysM171 : Go.Proofs.LaysM.n171 Tryz.prog Tryz.laysM171_ren := {
 mixed := by kernel_rfl
 f129 := Tryz.func195.trans (congrArg some (by kernel_rfl))
 f171 := Tryz.func185.trans (congrArg some (by kernel_rfl))
 f243 := Tryz.func197.trans (congrArg some (by kernel_rfl))
 f246 := Tryz.func210.trans (congrArg some (by kernel_rfl))
 f283 := Tryz.func212.trans (congrArg some (by kernel_rfl))
 f284 := Tryz.func213.trans (congrArg some (by kernel_rfl))
 f285 := Tryz.func214.trans (congrArg some (by kernel_rfl))
 f286 := Tryz.func215.trans (congrArg some (by kernel_rfl))
 f317 := Tryz.func217.trans (congrArg some (by kernel_rfl))
 f318 := Tryz.func218.trans (congrArg some (by kernel_rfl))
 f319 := Tryz.func219.trans (congrArg some (by kernel_rfl))
 f320 := Tryz.func220.trans (congrArg some (by kernel_rfl))
 f337 := Tryz.func222.trans (congrArg some (by kernel_rfl))
 f338 := Tryz.func223.trans (congrArg some (by kernel_rfl))
 t0 := Tryz.underlying0
 a0 := Tryz.isAgg0
 z0 := Tryz.sizeOf0
 v0 := Tryz.zeroValue0
 t2 := Tryz.underlying2
 a2 := Tryz.isAgg2
 z2 := Tryz.sizeOf2
 v2 := Tryz.zeroValue2
 t3 := Tryz.underlying3
 a3 := Tryz.isAgg3
 z3 := Tryz.sizeOf3
 v3 := Tryz.zeroValue3
 t4 := Tryz.underlying4
 a4 := Tryz.isAgg4
 z4 := Tryz.sizeOf4
 v4 := Tryz.zeroValue4
 t5 := Tryz.underlying5
 a5 := Tryz.isAgg5
 z5 := Tryz.sizeOf5
 v5 := Tryz.zeroValue5
 t9 := Tryz.underlying9
 a9 := Tryz.isAgg9
 z9 := Tryz.sizeOf9
 v9 := Tryz.zeroValue9
 t20 := Tryz.underlying20
 a20 := Tryz.isAgg20
 z20 := Tryz.sizeOf20
 v20 := Tryz.zeroValue20
 t37 := Tryz.underlying169
 a37 := Tryz.isAgg169
 z37 := Tryz.sizeOf169
 v37 := Tryz.zeroValue169
 t46 := Tryz.underlying164
 a46 := Tryz.isAgg164
 z46 := Tryz.sizeOf164
 v46 := Tryz.zeroValue164
 t51 := Tryz.underlying208
 a51 := Tryz.isAgg208
 z51 := Tryz.sizeOf208
 v51 := Tryz.zeroValue208
 t53 := Tryz.underlying195
 a53 := Tryz.isAgg195
 z53 := Tryz.sizeOf195
 v53 := Tryz.zeroValue195
 t171 := Tryz.underlying243
 a171 := Tryz.isAgg243
 z171 := Tryz.sizeOf243
 v171 := Tryz.zeroValue243
 t173 := Tryz.underlying245
 a173 := Tryz.isAgg245
 z173 := Tryz.sizeOf245
 v173 := Tryz.zeroValue245
 t212 := Tryz.underlying247
 a212 := Tryz.isAgg247
 z212 := Tryz.sizeOf247
 v212 := Tryz.zeroValue247
 t213 := Tryz.underlying248
 a213 := Tryz.isAgg248
 z213 := Tryz.sizeOf248
 t232 := Tryz.underlying251
 a232 := Tryz.isAgg251
 z232 := Tryz.sizeOf251
 v232 := Tryz.zeroValue251
 t233 := Tryz.underlying252
 a233 := Tryz.isAgg252
 z233 := Tryz.sizeOf252
 v233 := Tryz.zeroValue252
 g17 := by kernel_rfl
 g18 := by kernel_rfl
 g19 := by kernel_rfl
 i0 := by kernel_rfl
 i2 := by kernel_rfl
 i3 := by kernel_rfl
 i4 := by kernel_rfl
 i5 := by kernel_rfl
 i9 := by kernel_rfl
 i20 := by kernel_rfl
 i37 := by kernel_rfl
 i46 := by kernel_rfl
 i51 := by kernel_rfl
 i53 := by kernel_rfl
 i171 := by kernel_rfl
 i173 := by kernel_rfl
 i212 := by kernel_rfl
 i232 := by kernel_rfl
 i233 := by kernel_rfl
 m17 := by kernel_rfl
 m18 := by kernel_rfl
 m19 := by kernel_rfl }
open Go.RowKit Go.Sort Go.Lib in
/-- strconv.Itoa: "Itoa is equivalent to FormatInt(int64(i), 10).": i's DECIMAL NUMERAL ('Lib.itoa': a '-' where i is negative, then the digits), FOR EVERY int. The world behind the call: the world before it, new blocks behind the heap (the library's 'var a [24]byte'), draws. (LAID: no walk: one application.) -/
theorem Tryz.strconv_Itoa (n : Int) (h0 : -9223372036854775808 ≤ n) (h1 : n ≤ 9223372036854775807) (w : World) (htab : Lib.TabIs Tryz.prog w "internal/strconv.uint64pow10" .u64 Lib.pow10Tab) :
  Calls Tryz.prog 185 #[.int .i64 n] w fun e w' => e = .returned (.string ⟨(Lib.itoa n).toArray⟩) ∧ ∃ k os, w' = grow (w.drewN k) os := Any.strconv_Itoa Tryz.laysM171 n h0 h1 w htab

end Go.Proofs

namespace Go.Proofs.YtddkdgodgflmlaaGreatDoor
open Go.RowKit
set_option maxRecDepth 100000

theorem itoaOk_tab {w : World} (h : TabW w) (n : Int) (h0 : -9223372036854775808 ≤ n) (h1 : n ≤ 9223372036854775807) : ItoaOk w n := by
 intro w' hb
 refine (Tryz.strconv_Itoa n h0 h1 w' (h.below hb)).mono ?_
 rintro e w'' ⟨rfl, k, os, rfl⟩
 exact ⟨rfl, Lib.below_grow _ _ (Nat.le_refl _) _ _⟩
theorem gPowT : (Tryz.prog.globals[5]?).map (·.type) = some 247 := by kernel_rfl
/-- a row's condition lays the table. -/
theorem tabW_of {W : World} {l : List (String × DataW Unit)} (hL : laidMetH Tryz.prog l W) (he : (l.filter fun x => x.2.handleName?.isNone).filter (fun p => p.1 == "internal/strconv.uint64pow10") = [("internal/strconv.uint64pow10", Lib.tabData .u64 Lib.pow10Tab)]) : TabW W := by
 have h := (laidMetH_iff.1 hL).1.filter (fun p => p.1 == "internal/strconv.uint64pow10")
 rw [he] at h
 exact Lib.tabIs_of_head gPow gPowT Tryz.underlying247 Tryz.underlying195 kR kR h
end Go.Proofs.YtddkdgodgflmlaaGreatDoor

namespace Go.Proofs.YtddkdgodgflmlaaGreatDoor
open Go.RowKit Go.ChangeShapes Go.WideShapes Go.ChangeAt
set_option maxRecDepth 100000

theorem kidsP : Kids Tryz.prog (· < Tryz.prog.types.size) := kids_rows kR kR
theorem fullP : ∀ t e, t < Tryz.prog.types.size → Tryz.prog.underlying t = some (.slice e) → 0 < Tryz.prog.cellsOf e := slices_full_of Tryz.prog kR

section
variable {H : Type} {enc : TypeId × Value → H} {P : Program} {W W' : World}
theorem trodAll_carryW {base : Nat} {sp : Nat → Bool} {held : Bool} : ∀ {ts : List TypeId} {vs : List Value} {ds : List (DataW H)} {ps : List MemPlace}, DataW.TrodAll enc P W base sp held ts vs ds ps → (∀ p ∈ ps, W.sameAt W' p) → DataW.TrodAll enc P W' base sp held ts vs ds ps
 | [], [], [], _, h, _ => h
 | _ :: _, _ :: _, _ :: _, _, ⟨p, q, ⟨n, h1⟩, h2, e⟩, hs => ⟨p, q, ⟨n, DataW.trod_carry n _ _ _ h1 (fun x hx => hs x (by rw [e]; exact List.mem_append_left _ hx))⟩, trodAll_carryW h2 (fun x hx => hs x (by rw [e]; exact List.mem_append_right _ hx)), e⟩
theorem sameAt_below (hb : Below W.heap.size W W') {p : MemPlace} (h : p.block < W.heap.size) : W.sameAt W' p := by
 cases p with
 | cell b off => exact (hb.cell (p := ⟨b, off, none⟩) h)
 | map b => exact hb.block b h
theorem kept_below (hb : Below W.heap.size W W') (may : MemPlace → Prop) : W.keptBut W' may := by
 refine ⟨hb.os, hb.output, fun i hi => ?_⟩
 rw [hb.block i hi]
 cases h : W.heap[i]? with
 | none => rfl
 | some o =>
  cases o with
  | cells c t fr => exact ⟨rfl, rfl, rfl, fun _ _ => rfl⟩
  | map es clock => exact .inr ⟨rfl, rfl⟩
  | _ => rfl
/-- a law that returns true and turns nothing that was there. -/
theorem law_post {f : Func} {s : ChangeSpec} {args : Array Value} {ds gs : List (DataW H)} {before : List MemPlace} (hv : s.vars = []) (hr : f.resultTypes = #[4]) (hp : ∀ t ∈ f.params.toList, t < Tryz.prog.types.size)
   (hs : (s.fn H ds).results = [.lit (.bool true)] ∧ (s.fn H ds).args = ds ∧ (s.fn H ds).vars = [])
   (hW : DataW.Whole enc Tryz.prog f.params.toList s.vars false W args.toList ds gs before) (hb : Below W.heap.size W W') : s.post enc Tryz.prog f false true false false W args (.bool true) W' := by
 have hlt := hW.lt
 have hW' := hW
 obtain ⟨p, q, hA, hV, rfl, hfz, _⟩ := hW
 rw [hv] at hV
 have hgs : gs = [] ∧ q = [] := by
  cases gs with
  | nil => exact ⟨rfl, hV⟩
  | cons g gs => exact absurd hV id
 obtain ⟨rfl, rfl⟩ := hgs
 simp only [List.append_nil] at hlt hW' ⊢
 have hsame : ∀ p' ∈ p, W.sameAt W' p' := fun p' hp' => sameAt_below hb (hlt p' hp')
 refine ⟨ds, [], p, [], p, [], hW', ?_, ?_, ?_, kept_below hb _, fun h => by cases h⟩
 ·rw [List.append_nil, hs.1, hr]
  exact trodAll_cons_mk (shut_bool Tryz.underlying4 _) trodAll_mk0
 ·rw [List.append_nil, hs.2.1]
  exact DataW.TrodAll.respare kidsP fullP hp (trodAll_carryW hA hsame) (fun p' hp' => by simpa using hlt p' hp')
 ·rw [List.append_nil, hs.2.2, hv]
  rfl
end
end Go.Proofs.YtddkdgodgflmlaaGreatDoor

namespace Go.Proofs.YtddkdgodgflmlaaGreatDoor
open Go.RowKit Go.ChangeShapes Go.WideShapes Go.ChangeAt Go.Joins Go.Deep
set_option maxRecDepth 100000
theorem cellsInt : Tryz.prog.cellsOf 3 = 1 := by kernel_rfl
theorem inI_wf {x : Int} (h : (Lit.int .i64 x).wf = true) : InI x := by
 simp [Lit.wf, IntKind.min, IntKind.max, IntKind.bits, IntKind.signed] at h
 unfold InI
 omega
section
variable {H : Type} {enc : TypeId × Value → H} {W : World}
theorem ints_of_cells {a : Addr} {zs : List Int} {len cap : Nat} (hl : len ≤ cap) (hm : cap ≤ maxLen) (hz : len ≤ zs.length) (hc : ∀ i, i < zs.length → W.cell? (a.add i) = some (.int .i64 (zs.getD i 0))) : Ints W (some a) cap (zs.take len) := by
 have hlen : (zs.take len).length = len := by simp; omega
 refine ⟨cIntS, by rw [hlen]; exact hl, hm, fun h => (by cases h), fun j u hj => ?_⟩
 have hfm : ((zs.take len).flatMap fun x => (cInt x).cells.toList) = (zs.take len).map fun x => Value.int .i64 x := by
  generalize zs.take len = l
  induction l with
  | nil => rfl
  | cons x r ih => rw [List.flatMap_cons, ih]; rfl
 rw [hfm, List.getElem?_map] at hj
 have hjl : j < len := by
  obtain ⟨x, hx, _⟩ := Option.map_eq_some_iff.1 hj
  have := (List.getElem?_eq_some_iff.1 hx).1
  simp at this; omega
 have h0 := hc 0 (by omega)
 have hsp : a.spot = none := by
  unfold World.cell? Addr.add at h0
  simp only [if_pos] at h0
  split at h0
  ·split at h0
   ·cases h0
   ·next h => simpa using h
  ·cases h0
 refine ⟨a.block, a.off, by rw [← hsp], ?_⟩
 have hj0 := hc j (by omega)
 have e : a.add j = ⟨a.block, a.off + j, none⟩ := by
  unfold Addr.add
  split
  ·next h => subst h; rw [← hsp]; rfl
  ·rfl
 rw [e] at hj0
 rw [hj0, ← hj]
 have h2 : j < zs.length := by omega
 simp [List.getElem?_take, hjl, h2]
theorem open_intsA {r : Reach} {b0 : Nat} {v : Value} {d : DataW H} {ps : List MemPlace} (hval : Value.okWide Tryz.prog W r b0 22 v) (h : DataW.Trod enc Tryz.prog W 0 (fun _ => true) true 22 v d ps) : ∃ a cap l, v = .slice a l.length cap ∧ Ints W a cap l ∧ ∀ x ∈ l, InI x := by
 obtain ⟨a0, len, cap, rfl⟩ := okWide_slice Tryz.underlying22 hval
 obtain ⟨fuel, hf⟩ := h
 rcases open_ints Tryz.underlying22 Tryz.underlying3 cellsInt hf with ⟨hcs, _⟩ | ⟨a, len', cap', zs, hcs, _, hl, hm, hz, _, hcell, hwz⟩
 ·simp [Value.cells] at hcs
  obtain ⟨rfl, rfl, rfl⟩ := hcs
  exact ⟨_, _, [], rfl, ints_nil W, fun x hx => by cases hx⟩
 ·simp [Value.cells] at hcs
  obtain ⟨rfl, rfl, rfl⟩ := hcs
  simp only [if_true] at hz
  have hlen : (zs.take len).length = len := by simp; omega
  refine ⟨some a, cap, zs.take len, by rw [hlen], ints_of_cells hl hm (by omega) hcell, fun x hx => ?_⟩
  exact inI_wf (hwz x (List.mem_of_mem_take hx))
theorem open_intA {r : Reach} {b0 : Nat} {v : Value} {d : DataW H} {ps : List MemPlace} (hval : Value.okWide Tryz.prog W r b0 3 v) (h : DataW.Trod enc Tryz.prog W 0 (fun _ => true) true 3 v d ps) : ∃ x : Int, v = .int .i64 x ∧ InI x := by
 obtain ⟨y, rfl⟩ := okWide_int Tryz.underlying3 hval
 obtain ⟨n, hn⟩ := h
 obtain ⟨x, e, _, w0⟩ := DataW.trod_int Tryz.underlying3 hn
 simp [Value.cells] at e
 subst e
 exact ⟨y, rfl, inI_wf w0⟩
end
end Go.Proofs.YtddkdgodgflmlaaGreatDoor

namespace Go.Proofs.YtddkdgodgflmlaaGreatDoor
open Go.RowKit Go.ChangeShapes Go.WideShapes Go.ChangeAt Go.Joins Go.Deep
set_option maxRecDepth 100000

section
variable {H : Type} {enc : TypeId × Value → H} {W : World}
end
end Go.Proofs.YtddkdgodgflmlaaGreatDoor

namespace Go.Proofs.YtddkdgodgflmlaaGreatDoor
open Go.RowKit Go.ChangeShapes Go.WideShapes Go.ChangeAt Go.Joins Go.Deep
set_option maxRecDepth 100000

section
variable {H : Type} {enc : TypeId × Value → H} {W : World}
end
end Go.Proofs.YtddkdgodgflmlaaGreatDoor

namespace Go.Proofs.YtddkdgodgflmlaaGreatDoor
open Go.RowKit
set_option maxRecDepth 100000

instance (b : UInt8) : Decidable (isDig b) := inferInstanceAs (Decidable (_ ∧ _))
instance (l : List UInt8) : Decidable (canon l) := inferInstanceAs (Decidable (_ ∧ _ ∧ _))
def both (a b : Option Nat) : Option (Int × Int) := match a, b with | some x, some y => some (x, y) | _, _ => none
end Go.Proofs.YtddkdgodgflmlaaGreatDoor

namespace Go.Proofs.YtddkdgodgflmlaaGreatDoor
open Go.RowKit
set_option maxHeartbeats 4000000
set_option maxRecDepth 100000

end Go.Proofs.YtddkdgodgflmlaaGreatDoor

namespace Go.Proofs.YtddkdgodgflmlaaGreatDoor
open Go.RowKit
set_option maxHeartbeats 4000000
set_option maxRecDepth 100000

end Go.Proofs.YtddkdgodgflmlaaGreatDoor

namespace Go.Proofs.YtddkdgodgflmlaaGreatDoor
open Go.RowKit
set_option maxHeartbeats 4000000
set_option maxRecDepth 100000

section
variable {P : Program} {ops : Array Oper} {rest : List Oper} {a : Act} {Qa : Act → Prop} {α : Type} {c : α → Value} {sz bytes : Nat} {t e t2 e2 : TypeId} {z : Value} {ad : Option Addr} {cap : Nat} {l : List α} {k : Int} {w : World}
 {d1 d2 d3 : Tmp} {ty1 ty2 ty3 : TypeId} {p1 p2 p3 : String} {s x : Operand} {af1 af2 af3 : Array Edge} {j : Nat}
end

end Go.Proofs.YtddkdgodgflmlaaGreatDoor

namespace Go.Proofs.YtddkdgodgflmlaaGreatDoor
open Go.RowKit
set_option maxRecDepth 100000

section
open Go.ChangeMaps
variable {H : Type} {enc : TypeId × Value → H} {W : World}
end
end Go.Proofs.YtddkdgodgflmlaaGreatDoor

namespace Go.Proofs.YtddkdgodgflmlaaGreatDoor
open Go.RowKit
set_option maxHeartbeats 1000000
set_option maxRecDepth 100000
section
variable {P : Program} {ops : Array Oper} {rest : List Oper} {a : Act} {Qa : Act → Prop} {α : Type} {c : α → Value} {sz bytes : Nat} {t e : TypeId} {z : Value} {ad : Option Addr} {cap : Nat} {l : List α} {k : Int} {w : World}
 {d1 d2 : Tmp} {ty1 ty2 : TypeId} {p1 p2 : String} {s x : Operand} {af1 af2 : Array Edge}
theorem wpB_idx2 (d : α) (E : ETy P t e z sz bytes) (hF : Flat P e) (hc : ∀ x, (c x).cells = #[c x])
   {n : Nat} (hs : a.eval s = .slice ad n cap) (hn : l.length = n) (hx : a.eval x = .int .i64 k) (hR : Reps c sz w ad cap l) (h0 : 0 ≤ k) (hlt : k < l.length) (hd : ∀ p, (a.put (some d1) p).eval (.tmp d1) = p)
   (hK : ∀ p, wpQuiet P ops (Below w.heap.size w) Qa rest ((a.put (some d1) p).put (some d2) (c (atD d l k)))) :
   wpQuiet P ops (Below w.heap.size w) Qa (⟨some d1, .indexAddr t s x, ty1, p1, af1, none⟩ :: ⟨some d2, .load e (.tmp d1), ty2, p2, af2, none⟩ :: rest) a := by
 subst hn
 have hkl : k.toNat < l.length := by omega
 obtain ⟨b, o, rfl, hcs⟩ := hR.cells E.pos d k.toNat hkl
 have hcell := hcs 0 (c (atD d l k)) (by rw [show l.getD k.toNat d = atD d l k from rfl, hc]; rfl)
 refine wpQ_in (.pointer (some ((⟨b, o, none⟩ : Addr).add (k.toNat * sz)))) rfl (fun w' hw' => ?_) (wpQ_in (c (atD d l k)) rfl (fun w' hw' => ?_) (hK _))
 ·have h1 := run_indexAt_sl (P := P) (a := ⟨b, o, none⟩) (cap := cap) w' E h0 hlt
  simp [execOp, hs, hx, h1, Result.andThen]
 ·have h2 := run_loadAt_cell (P := P) w' (a := (⟨b, o, none⟩ : Addr).add (k.toNat * sz)) (v := c (atD d l k)) hF (by
   rw [Addr.add_z]
   exact (hw'.cell (World.block_lt_of_cell? w _ hcell)).trans hcell)
  simp [execOp, hd, h2, Result.andThen]
end
theorem SamePerms_any (a a2 : Option Addr) (cap cap2 : Nat) (H R : List SlH) (l : List (List Int)) (n : Nat) (w : World) (hS : Reps cSl 1 w a cap H) (hM : Reps cSl 1 w a2 cap2 R) (hH : H.length = n) (hR : R.length = n) (hL : l.length = n) (hq : LeadsTo w H l) (hr : LeadsTo w R l) (hl : n ≤ 1048576) :
  Calls Tryz.prog 26 #[.slice a n cap, .slice a2 n cap2] w fun r w' => r = .returned (.bool true) ∧ Below w.heap.size w w' := by
 have hcap : n ≤ cap := by have := hS.le; omega
 have hm := hS.max
 have hcap2 : n ≤ cap2 := by have := hM.le; omega
 have hm2 := hM.max
 have CS : ∀ (k : Nat), k < n → ∃ x xa xc ya yc, atD ((none, 0, 0) : SlH) H k = (xa, x, xc) ∧ atD ((none, 0, 0) : SlH) R k = (ya, x, yc) ∧ ∀ w', Below w.heap.size w w' → Calls Tryz.prog 15 #[.slice xa x xc, .slice ya x yc] w' fun r w'' => r = .returned (.bool true) ∧ Below w'.heap.size w' w'' := by
  intro k hk
  obtain ⟨xa, xc, hx1, hx2, hx3⟩ := hq k (by omega)
  obtain ⟨ya, yc, hy1, hy2, hy3⟩ := hr k (by omega)
  refine ⟨_, xa, xc, ya, yc, hx1, hy1, fun w' hb => ?_⟩
  have := SameInts_any xa ya xc yc _ _ w' (hx2.below hb) (hy2.below hb) hx3
  rw [decide_eq_true rfl] at this
  exact this
 have HC := hid CS
 have HS := hid (show Reps cSl 1 w a cap H ∧ H.length = n from ⟨hS, hH⟩)
 have HM := hid (show Reps cSl 1 w a2 cap2 R ∧ R.length = n from ⟨hM, hR⟩)
 clear CS hq hr hL hS hM hH hR
 go_enter Tryz.func26, Tryz.ntmps26
 go_wp2_with fail
 go_loopw [5] (fun i wr => ∃ k : Nat, k ≤ n ∧ i = .int .i64 k ∧ Below w.heap.size w wr) (fun i _ => n - (intOf i).toNat)
 case atStart => exact ⟨0, by omega, rfl, Below.refl _ _⟩
 case round =>
  obtain ⟨k, hk, rfl, hbr⟩ := hrel
  by_cases hlt : k < n
  ·obtain ⟨x, xa, xc, ya, yc, hx, hy, hc⟩ := HC.out k hlt
   have hS5 := HS.out.1.below hbr
   have hS6 := HM.out.1.below hbr
   have hk1 : (k : Int) < H.length := by rw [HS.out.2]; omega
   have hk2 : (k : Int) < R.length := by rw [HM.out.2]; omega
   have HX := hid hx; have HY := hid hy; have HCC := hid hc
   clear hx hy hc
   go_wp2_with fail
   refine wp_region_q kR kR ?_
   repeat (first | (((with_reducible refine wpB_idx2 ((none, 0, 0) : SlH) E_sls F_sl cSl1 wU (HS.out.2) wU (hS5) oD oD (fun _ => wU) (fun _ => ?_)); (try simp only [Act.put, pA, pB, pC]); (try simp only [cInt])); rw [HX.out]) | (((with_reducible refine wpB_idx2 ((none, 0, 0) : SlH) E_sls F_sl cSl1 wU (HM.out.2) wU (hS6) oD oD (fun _ => wU) (fun _ => ?_)); (try simp only [Act.put, pA, pB, pC]); (try simp only [cInt])); rw [HY.out]) | ((refine wpB_call (.bool true) wU (fun w' => ?_) (fun w' hw' => HCC.out w' (bnext hbr hw')) ?_); (focus (go_simp; done)); (try simp only [Act.put, pA, pB, pC])) |  ((with_reducible refine wpB_load (by first | exact F_int | exact F_u64s) wU wU (by assumption) wU ?_); (try simp only [Act.put, pA, pB, pC])) | ((refine wpQ_oneG ?_ wU (fun w' => ?_) ?_); rotate_left; (go_simp; rfl); (try simp only [Act.put, pA, pB, pC])))
   refine wpQuiet_nil ?_
   intro w5 hb5
   have b5 := bnext hbr hb5
   go_wp2_with fail
   exact ⟨⟨k + 1, by omega, by go_num, b5⟩, by simp [intOf]; omega⟩
  ·have hkn : k = n := by omega
   subst hkn
   go_wp2_with fail
   go_ret
   exact ⟨rfl, hbr⟩
end Go.Proofs.YtddkdgodgflmlaaGreatDoor

namespace Go.Proofs.YtddkdgodgflmlaaGreatDoor
set_option maxRecDepth 100000
/-- the switch before. -/
def prevO (l : List Int) : Nat → Option Int
 | 0 => none
 | k + 1 => some (atD 0 l k)
theorem swGo_prev (m : MacV) (k : Nat) (h : k < m.sw.length) : swGo m (prevO m.sw k) (m.sw.drop k) = if sharedM m (atD 0 m.sw k) = false then 10 else if 0 < k ∧ atD 0 m.sw k ≤ atD 0 m.sw ((k : Int) - 1) then 11 else swGo m (prevO m.sw (k + 1)) (m.sw.drop (k + 1)) := by
 rw [swGo_step m k h]
 cases k with
 | zero => simp [prevO]
 | succ j =>
  have : ((j + 1 : Nat) : Int) - 1 = j := by omega
  rw [this]
  simp only [prevO, Nat.zero_lt_succ, true_and]
end Go.Proofs.YtddkdgodgflmlaaGreatDoor

namespace Go.Proofs.YtddkdgodgflmlaaGreatDoor
open Go.RowKit
set_option maxHeartbeats 2000000
set_option maxRecDepth 100000

theorem A_rmach : Aggr Tryz.prog 66 := ⟨_, Tryz.underlying66, rfl⟩
theorem rOutside_any (n lo hi : Int) (w : World) :
  Calls Tryz.prog 82 #[.int .i64 n, .int .i64 lo, .int .i64 hi] w fun r w' => r = .returned (.bool (decide (n < lo) || decide (hi < n))) ∧ w = w' := by
 by_cases h : n < lo
 ·go_enter Tryz.func82, Tryz.ntmps82
  go_wp2_with fail
  go_ret
  exact ⟨by simp [h], rfl⟩
 ·go_enter Tryz.func82, Tryz.ntmps82
  go_wp2_with fail
  go_ret
  exact ⟨by rw [show decide (n < lo) = false by simpa using h]; rfl, rfl⟩
theorem rShort_any (m : MacV) (ad : Option Addr) (cap : Nat) (al : Option Addr) (cl n : Nat) (w : World) :
  Calls Tryz.prog 52 #[mV m ad cap, .slice al n cl] w fun r w' => r = .returned (.bool (decide (m.sw.length ≤ 19) && decide (n ≤ 67))) ∧ Below w.heap.size w w' := by
 by_cases h : m.sw.length ≤ 19
 ·have h2 : (m.sw.length : Int) ≤ 19 := by omega
  by_cases k : n ≤ 67
  ·have k2 : (n : Int) ≤ 67 := by omega
   go_enter Tryz.func52, Tryz.ntmps52
   go_wp2_with fail
   go_ret
   exact ⟨by simp [h, k, h2, k2], bal (Below.refl _ _) _⟩
  ·have k2 : ¬ (n : Int) ≤ 67 := by omega
   go_enter Tryz.func52, Tryz.ntmps52
   go_wp2_with fail
   go_ret
   exact ⟨by simp [h, k, h2, k2], bal (Below.refl _ _) _⟩
 ·have h2 : ¬ (m.sw.length : Int) ≤ 19 := by omega
  go_enter Tryz.func52, Tryz.ntmps52
  go_wp2_with fail
  go_ret
  exact ⟨by simp [h, h2], bal (Below.refl _ _) _⟩
theorem rSlots_any (m : MacV) (ad : Option Addr) (cap : Nat) (w : World) (h0 : 0 ≤ m.gears) (h1 : m.gears ≤ 16) :
  Calls Tryz.prog 81 #[mV m ad cap] w fun r w' => r = .returned (.int .i64 (4 * m.gears)) ∧ Below w.heap.size w w' := by
 go_enter Tryz.func81, Tryz.ntmps81
 go_wp2_with fail
 go_ret
 exact ⟨rfl, bal (Below.refl _ _) _⟩
theorem rShared_any (m : MacV) (ad : Option Addr) (cap : Nat) (p : Int) (w : World) (h0 : 1 ≤ m.gears) (h1 : m.gears ≤ 16) :
  Calls Tryz.prog 109 #[mV m ad cap, .int .i64 p] w fun r w' => r = .returned (.bool (sharedM m p)) ∧ Below w.heap.size w w' := by
 have hw : IntKind.i64.wrap (m.gears - 1) = m.gears - 1 := IntWalk.i64_in _ (by omega)
 have hS := (SL.nil w).box (.cells (mC m ad cap) 66)
 cases hr : m.ring
 ·have hs : sharedM m p = !(decide (p < 1) || decide (m.gears - 1 < p)) := by
   unfold sharedM
   rw [hr, Bool.eq_iff_iff]
   simp
   omega
  obtain ⟨b, hb⟩ : ∃ b, b = (decide (p < 1) || decide (m.gears - 1 < p)) := ⟨_, rfl⟩
  have CO := fun w => rOutside_any p 1 (m.gears - 1) w
  rw [← hb] at CO hs
  have HS := hid hs; have HO := hid CO
  clear hs CO hb
  unfold mV
  rw [hr]
  clear hr
  go_enter Tryz.func109, Tryz.ntmps109
  go_wp2_with fail
  refine (HO.out _).mono ?_
  rintro e w1 ⟨rfl, rfl⟩
  go_wp2_with fail
  go_ret
  exact ⟨by rw [HS.out]; rfl, bal (Below.refl _ _) _⟩
 ·have hs : sharedM m p = !(decide (p < 0) || decide (m.gears - 1 < p)) := by
   unfold sharedM
   rw [hr, Bool.eq_iff_iff]
   simp
   omega
  obtain ⟨b, hb⟩ : ∃ b, b = (decide (p < 0) || decide (m.gears - 1 < p)) := ⟨_, rfl⟩
  have CO := fun w => rOutside_any p 0 (m.gears - 1) w
  rw [← hb] at CO hs
  have HS := hid hs; have HO := hid CO
  clear hs CO hb
  unfold mV
  rw [hr]
  clear hr
  go_enter Tryz.func109, Tryz.ntmps109
  go_wp2_with fail
  refine (HO.out _).mono ?_
  rintro e w1 ⟨rfl, rfl⟩
  go_wp2_with fail
  go_ret
  exact ⟨by rw [HS.out]; rfl, bal (Below.refl _ _) _⟩
end Go.Proofs.YtddkdgodgflmlaaGreatDoor
