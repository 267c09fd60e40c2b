/- Contracts and plain facts that the claim uses (MemA SlA PaA RlB NrP NrM Lib3 ItA OpC TpF LwA OpM QrP QrA QrB). Conditions: as each one states. -/
import Derived.WalkKit
import Derived.WalkSpells
import Derived.Maps.AppendAt
import Derived.Deep.Quiet
import Derived.RangeFuncNested
import Derived.RangeFuncBound
import Derived.RangeFuncCalls
import Derived.RangeFuncLeaves
import Derived.RangeFuncFrom
import Derived.Shelf.Abstract
import Derived.Shelf.RegionOpen
import Derived.OwnWalkIn
import Derived.TacticsInMore
import Derived.LoopNIn
import Derived.LoopIn
import Derived.Test.YtoebgfgihfjnnaaGreatDoorProg
import Derived.Maps.Own
import Derived.Maps.OwnSet
import Derived.Maps.Views
import Derived.WalkLawsBesides
import Derived.Laws.EntriesVeiled
import Derived.Deep.QuietTactic
import Derived.BigQuiet
import Derived.Lib.OthersKept
import Derived.StillTail
import Derived.Laws.Tables
import Derived.Deep.RegionHeld3
import Derived.Deep.AppendLies
import Derived.Deep.RegionHeldLaw
import Derived.Deep.RegionLaw
import Derived.IntWalk
import Derived.Shelf.Strings.Trim
import Derived.Shelf.Strings.SlTrimAscii
import Derived.Shelf.Strings.Repeat
import Derived.Shelf.Strings.OnBuilder
import Derived.Shelf.Strconv.Itoa1
import Derived.Shelf.Strconv.Itoa3
import Derived.Shelf.LaysM
import Derived.Ground.Names2Prog
import Derived.Laws.CopyOwn
import Derived.BigRegion
import Derived.ChangeAlike
import Derived.Shelf.Bits.Mul64
import Derived.Lib.ItoaLen
import Derived.Lib.ItoaMem
import Derived.Sort.LoopGhostIn
import Derived.Maps.RangeWalk
import Derived.Deep.LoopGhost
import Derived.Shelf.Strconv.ErrVarAll
import Derived.Shelf.Strconv.AtoiAll
import Derived.Shelf.Strings.Cut
import Derived.Shelf.Strings.Split
import Derived.Shelf.Strings.SplitShaped
import Derived.Lib.AppendIntMem
import Derived.Lib.SmallJoins
import Derived.LaidSub
import Derived.Lib.LaidTab
import Derived.ReadAgain
import Derived.ChangeSlices
import Derived.OpenShut
import Derived.ProofKit
import Derived.Deep.DeepHandedRow
import Derived.Deep.SlicePairs
import Derived.Lib.Split
import Derived.Lib.AtoiAll
import Derived.Lib.AtoiErrMem
import Derived.Maps.Ext
import Derived.Stop.LaidErr
import Derived.Test.YtoebgfgihfjnnaaGreatDoorCards
import Derived.Test.YtoebgfgihfjnnaaGreatDoorTie
import Derived.Test.YtoebgfgihfjnnaaGreatDoorXz01
import Derived.Test.YtoebgfgihfjnnaaGreatDoorXz02
import Derived.Test.YtoebgfgihfjnnaaGreatDoorXz03
import Derived.Test.YtoebgfgihfjnnaaGreatDoorXz04
import Derived.Test.YtoebgfgihfjnnaaGreatDoorXz05
import Derived.Test.YtoebgfgihfjnnaaGreatDoorXz06
import Derived.Test.YtoebgfgihfjnnaaGreatDoorXz07
import Derived.Test.YtoebgfgihfjnnaaGreatDoorXz08
import Derived.Test.YtoebgfgihfjnnaaGreatDoorXz09
import Derived.Test.YtoebgfgihfjnnaaGreatDoorXz10
import Derived.Test.YtoebgfgihfjnnaaGreatDoorXz11
import Derived.Test.YtoebgfgihfjnnaaGreatDoorXz12
set_option linter.all false

namespace Go.Proofs.YtoebgfgihfjnnaaGreatDoor
open Go.RowKit
section
variable {α : Type} {c : α → Value} {sz : Nat} {w w' : World} {a : Option Addr} {cap : Nat} {l : List α}
end

section
variable {P : Program} {ops : Array Oper} {rest : List Oper} {a : Act} {Q : Exit → Act → World → Prop} {α : Type} {c : α → Value} {sz bytes : Nat} {t e : TypeId} {z : Value} {ad : Option Addr} {cap : Nat} {l : List α} {k : Int}
 {d1 d2 : Tmp} {ty1 ty2 : TypeId} {p1 p2 : String} {s x : Operand} {af1 af2 : Array Edge}

end
end Go.Proofs.YtoebgfgihfjnnaaGreatDoor

namespace Go.Proofs.YtoebgfgihfjnnaaGreatDoor
open Go.RowKit

section
variable {P : Program} {α : Type} {c : α → Value} {sz bytes B : Nat} {t e : TypeId} {z v : Value} {w w' : World} {l : List α}

theorem wpList_store {ops : Array Oper} {rest : List Oper} {a : Act} {Q : Exit → Act → World → Prop} {d1 : Tmp} {ty1 ty2 : TypeId} {p1 p2 : String} {s x y : Operand} {af1 af2 : Array Edge} {ad : Option Addr} {cap : Nat} {k : Int} (u : α)
   (E : ETy P t e z 1 bytes) (hc1 : ∀ x, (c x).cells = #[c x]) (hsto : ∀ (w : World) (p : Addr), (w.cell? p).isSome = true → w.frozen? p = false → (Instr.storeAt e (.pointer (some p)) (c u)).run P w = .ok () (w.setCell p (c u)))
   (hs : a.eval s = .slice ad l.length cap) (hx : a.eval x = .int .i64 k) (hO : Own c 1 B e w (.slice ad l.length cap) l) (h0 : 0 ≤ k) (hk : k < l.length)
   (hd : ∀ p, (a.put (some d1) p).eval (.tmp d1) = p) (hy : ∀ p, (a.put (some d1) p).eval y = c u)
   (hK : ∀ p w', Own c 1 B e w' (.slice ad l.length cap) (l.set k.toNat u) → w.grownBy w' (Value.slice ad l.length cap).ownBlock → wpList P ops Q rest ((a.put (some d1) p).put none undef) w') :
   wpList P ops Q (⟨some d1, .indexAddr t s x, ty1, p1, af1, none⟩ :: ⟨none, .store e (.tmp d1) y, ty2, p2, af2, none⟩ :: rest) a w := by
 obtain ⟨g, rfl, hB, hcell, hfr, hO', hg⟩ := own_store hc1 hO u k h0 hk
 refine wpList_plain rfl fun K hK' => ?_
 have h1 := run_indexAt_sl (P := P) (a := ⟨g, 0, none⟩) (cap := cap) w E h0 hk
 unfold Oper.wp
 simp only [execOp, hs, hx]
 simp [h1, Result.andThen]
 refine hK' _ _ (wpList_plain rfl fun K2 hK2 => ?_)
 unfold Oper.wp
 simp only [execOp, hd, hy]
 have h2 := hsto w ⟨g, k.toNat, none⟩ hcell hfr
 rw [Addr.add_z, Nat.zero_add]
 simp [h2, Result.andThen]
 exact hK2 _ _ (hK _ _ hO' hg)

end
end Go.Proofs.YtoebgfgihfjnnaaGreatDoor

namespace Go.Proofs.YtoebgfgihfjnnaaGreatDoor
open Go.RowKit
set_option maxHeartbeats 1000000
set_option maxRecDepth 100000

end Go.Proofs.YtoebgfgihfjnnaaGreatDoor

namespace Go.Proofs.YtoebgfgihfjnnaaGreatDoor
open Go.RowKit
set_option maxRecDepth 100000

section
variable {B : Nat} {w0 w w' : World} {L K : List Pc}
end

section
variable {B : Nat} {w0 w w' : World} {L : List Pc} {α : Type} {c : α → Value} {sz : Nat} {e : TypeId} {v : Value} {l : List α}
end

section
variable {P : Program} {ops : Array Oper} {rest : List Oper} {a : Act} {Q : Exit → Act → World → Prop} {α : Type} {c : α → Value} {sz bytes B : Nat} {t e : TypeId} {z v : Value} {w0 w : World} {L : List Pc} {l : List α}
theorem wpList_appL {d : Option Tmp} {ty : TypeId} {p : String} {s x : Operand} {af : Array Edge} {ad : Option Addr} {n cap : Nat} {ys : List α} (i : Nat) (E : ETy P t e z sz bytes)
   (hs : a.eval s = v) (hx : a.eval x = .slice ad n cap) (hS : SL B w0 w L) (hi : L[i]? = some (pOwn c sz e v l)) (hR : Reps c sz w ad cap ys) (hn : n = ys.length) (h1 : ∀ x, ∀ u ∈ (c x).cells.toList, u.oneCell' = true)
   (hb : (l.length + ys.length) * bytes ≤ 140737488355328) (hm : l.length + ys.length ≤ 9223372036854775807)
   (hK : ∀ v' w', SL B w0 w' (L.set i (pOwn c sz e v' (l ++ ys))) → wpList P ops Q rest (a.put d v') w') :
   wpList P ops Q (⟨d, .call { callee := .builtin .append, args := #[s, x], argTypes := #[t, t] }, ty, p, af, none⟩ :: rest) a w := by
 subst hn
 obtain ⟨b, ⟨h2, h3⟩, h4, h5⟩ := hS.upd i hi
 refine wpList_app (l := l) (ys := ys) (ad := ad) (cap := cap) E hs hx h2 hR h1 hb (Nat.zero_le _) hm ?_
 intro v' w' ho hg hat
 refine hK v' w' (h5 w' _ v'.ownBlock (h3 ▸ hg) ⟨ho, rfl⟩ ?_)
 rcases hat with hat | hat
 ·exact .inl (hat.trans h3)
 ·exact .inr (fun k hk => by rw [hat] at hk; cases hk; exact Nat.le_refl _)
theorem wpList_storeL {d1 : Tmp} {ty1 ty2 : TypeId} {p1 p2 : String} {s x y : Operand} {af1 af2 : Array Edge} {ad : Option Addr} {n cap : Nat} {k : Int} {u : α} (i : Nat)
   (E : ETy P t e z 1 bytes) (hc1 : ∀ x, (c x).cells = #[c x]) (hsto : ∀ (u : α) (w : World) (p : Addr), (w.cell? p).isSome = true → w.frozen? p = false → (Instr.storeAt e (.pointer (some p)) (c u)).run P w = .ok () (w.setCell p (c u)))
   (hs : a.eval s = .slice ad n cap) (hx : a.eval x = .int .i64 k) (hS : SL B w0 w L) (hi : L[i]? = some (pOwn c 1 e (.slice ad n cap) l)) (h0 : 0 ≤ k) (hk : k < l.length)
   (hd : ∀ p, (a.put (some d1) p).eval (.tmp d1) = p) (hy : ∀ p, (a.put (some d1) p).eval y = c u)
   (hK : ∀ p w', SL B w0 w' (L.set i (pOwn c 1 e (.slice ad n cap) (l.set k.toNat u))) → wpList P ops Q rest ((a.put (some d1) p).put none undef) w') :
   wpList P ops Q (⟨some d1, .indexAddr t s x, ty1, p1, af1, none⟩ :: ⟨none, .store e (.tmp d1) y, ty2, p2, af2, none⟩ :: rest) a w := by
 obtain ⟨a', cap', e1, _⟩ := hS.slice i hi
 simp only [Value.slice.injEq] at e1
 obtain ⟨rfl, rfl, rfl⟩ := e1
 obtain ⟨b, ⟨h2, h3⟩, h4, h5⟩ := hS.upd i hi
 refine wpList_store (l := l) (B := 0) u E hc1 (hsto u) hs hx h2 h0 hk hd hy (fun p w' ho hg => hK p w' (h5 w' _ b (h3 ▸ hg) ⟨ho, h3⟩ (.inl rfl)))
end
section
variable {ops : Array Oper} {rest : List Oper} {a : Act} {Q : Exit → Act → World → Prop} {d : Option Tmp} {ty : TypeId} {p : String} {m x y : Operand} {af : Array Edge} {b n B : Nat} {k : Int} {w0 w : World} {L : List Pc}
end
end Go.Proofs.YtoebgfgihfjnnaaGreatDoor

namespace Go.Proofs.YtoebgfgihfjnnaaGreatDoor
open Go.RowKit
set_option maxRecDepth 100000

section
variable {B : Nat} {w0 w w' : World} {L K : List Pc}
end

section
variable {α : Type} {c : α → Value} {sz : Nat} {e : TypeId} {v : Value} {l : List α} {B : Nat} {W0 w : World} {L : List Pc}
end
end Go.Proofs.YtoebgfgihfjnnaaGreatDoor

namespace Go.Proofs.YtoebgfgihfjnnaaGreatDoor
open Go.RowKit
set_option maxHeartbeats 400000
set_option maxRecDepth 100000

instance : Inhabited PassV := ⟨⟨0, 0, ByteArray.empty⟩⟩
def byteAt (s : ByteArray) (k : Nat) : Int := if h : k < s.size then ((s[k]'h).toNat : Int) else 0
theorem byteAt_in {s : ByteArray} {k : Nat} (h : k < s.size) : byteAt s k = ((s[k]'h).toNat : Int) := by simp [byteAt, h]

end Go.Proofs.YtoebgfgihfjnnaaGreatDoor

namespace Go.Proofs.YtoebgfgihfjnnaaGreatDoor
open Go.RowKit
set_option maxHeartbeats 400000
set_option maxRecDepth 100000

end Go.Proofs.YtoebgfgihfjnnaaGreatDoor

namespace Go.Proofs.YtoebgfgihfjnnaaGreatDoor
open Go.RowKit
section
variable {P : Program} {ops : Array Oper} {Q : Exit → Act → World → Prop} {C : World → Prop}
end
end Go.Proofs.YtoebgfgihfjnnaaGreatDoor

namespace Go.Proofs.YtoebgfgihfjnnaaGreatDoor
open Go.RowKit
section
variable {P : Program} {ops : Array Oper} {Q : Exit → Act → World → Prop} {md : Region.Mode} {C : World → Prop}

end
section
variable {P : Program} {ops : Array Oper} {w : World} {a : Act} {ty : TypeId} {p : String} {af : Array Edge} {g : Option (Nat × Bool)} {d : Tmp}
theorem yieldsK_idx {sz bytes : Nat} {t e : TypeId} {z : Value} {b of cap n : Nat} {k : Int} {s x : Operand} {C : World → Prop} (E : ETy P t e z sz bytes) (h0 : 0 ≤ k) (hlt : k < n) (hg : Region.wanted (⟨some d, .indexAddr t s x, ty, p, af, g⟩ : Oper) (yielded ops a.tmps) = true)
  (hs : a.eval s = .slice (some ⟨b, of, none⟩) n cap) (hx : a.eval x = .int .i64 k) :
  YieldsK P ops C ⟨some d, .indexAddr t s x, ty, p, af, g⟩ (.pointer (some ⟨b, of + k.toNat * sz, none⟩)) a := by
 refine .inl ⟨hg, fun w' _ => ?_⟩
 have h1 := run_indexAt_sl (P := P) (a := ⟨b, of, none⟩) (cap := cap) w' E h0 hlt
 rw [Addr.add_z] at h1
 simp [execOp, hs, hx, h1, Result.andThen]
end
end Go.Proofs.YtoebgfgihfjnnaaGreatDoor

namespace Go.Proofs.YtoebgfgihfjnnaaGreatDoor

end Go.Proofs.YtoebgfgihfjnnaaGreatDoor

namespace Go.Proofs.YtoebgfgihfjnnaaGreatDoor
open Go.RowKit
set_option maxHeartbeats 1000000
set_option maxRecDepth 100000

theorem decD_len : ∀ (k u : Nat), u < 10 ^ (k + 1) → (Lib.decDigits u).length ≤ k + 1
 | 0, u, h => by rw [decD_small (by simpa using h)]; simp
 | k + 1, u, h => by
   by_cases h1 : u < 10
   · rw [decD_small h1]; simp
   · rw [decD_big h1]
     have := decD_len k (u / 10) (by rw [Nat.pow_succ] at h; omega)
     simp; omega
theorem bT_app (l m : List UInt8) : bT l ++ bT m = bT (l ++ m) := by unfold bT; rw [ByteArray.mk_append_mk]; try simp
theorem bT_at {l : List UInt8} {k : Nat} (h : k < l.length) : byteAt (bT l) k = (l[k].toNat : Int) := by
 rw [byteAt_in (by rw [bT_size]; exact h), ByteArray.getElem_eq_getElem_data]
 simp [bT]
theorem bT_extract (l : List UInt8) (i j : Nat) : (bT l).extract i j = bT ((l.take j).drop i) := by
 unfold bT
 apply ByteArray.ext
 rw [ByteArray.data_extract]
 apply Array.ext'
 simp only [Array.toList_extract, List.extract_eq_take_drop]
 rw [List.drop_take]
def dig10 : ByteArray := ⟨#[48, 49, 50, 51, 52, 53, 54, 55, 56, 57]⟩
theorem dig10_at : ∀ d : Nat, d < 10 → dig10.extract d (d + 1) = bT [UInt8.ofNat (48 + d)] := by decide

/-- where a decimal text stands while it is made from behind. -/
def decInv (N c : Nat) (t : List UInt8) : Prop := (c = 0 ∧ t ≠ [] ∧ t = Lib.decDigits N) ∨ ((0 < c ∨ t = []) ∧ Lib.decDigits N = Lib.decDigits c ++ t)
theorem decInv_start (N : Nat) : decInv N N [] := .inr ⟨.inr rfl, by simp⟩
theorem decInv_len {N c : Nat} {t : List UInt8} (h : decInv N c t) : t.length ≤ (Lib.decDigits N).length := by
 rcases h with ⟨_, _, rfl⟩ | ⟨_, e⟩
 ·exact Nat.le_refl _
 ·rw [e]; simp
theorem decInv_step {N c : Nat} {t : List UInt8} (h : decInv N c t) (hc : 0 < c ∨ t = []) : decInv N (c / 10) (UInt8.ofNat (48 + c % 10) :: t) := by
 have e : Lib.decDigits N = Lib.decDigits c ++ t := by
  rcases h with ⟨a, b, _⟩ | ⟨_, e⟩
  ·rcases hc with h1 | h1
   ·omega
   ·exact absurd h1 b
  ·exact e
 by_cases h1 : c < 10
 ·refine .inl ⟨by omega, by simp, ?_⟩
  rw [e, decD_small h1, Nat.mod_eq_of_lt h1]; rfl
 ·refine .inr ⟨.inl (by omega), ?_⟩
  rw [e, decD_big h1, List.append_assoc]; rfl
theorem decInv_end {N : Nat} {t : List UInt8} (h : decInv N 0 t) (ht : t ≠ []) : bT t = itoaB (N : Int) := by
 rw [itoaB_bT]
 rcases h with ⟨_, _, rfl⟩ | ⟨h1, _⟩
 ·rfl
 ·rcases h1 with h1 | h1
  ·omega
  ·exact absurd h1 ht

theorem itoaB_len {p : Nat} (hp : p < 1000000000) : (itoaB (p : Int)).size ≤ 9 ∧ 0 < (itoaB (p : Int)).size := by
 have h1 := decD_len 8 p hp
 have h3 := decD_pos p
 rw [itoaB_bT, bT_size]; omega
theorem wD_len (n : Nat) : (wD n).length ≤ 1 := by unfold wD; split <;> simp
theorem wD_pos {n : Nat} (h : 0 < n) : wD n = [(n : Int)] := by unfold wD; rw [if_neg (by omega)]
end Go.Proofs.YtoebgfgihfjnnaaGreatDoor

namespace Go.Proofs.YtoebgfgihfjnnaaGreatDoor
open Go.RowKit
set_option maxHeartbeats 2000000
set_option maxRecDepth 100000

def strZ : Value → Nat | .string s => if s.size = 0 then 1 else 0 | _ => 0
theorem rdecimal_any (N : Nat) (w : World) (hN : N < 1000000000000000000) :
  Calls Tryz.prog 142 #[.int .i64 N, .int .i64 1] w fun r w' => r = .returned (.string (itoaB N)) ∧ w = w' := by
 have hl := decD_len 17 N (by simpa using hN)
 have HL := hid hl
 clear hl
 go_enter Tryz.func142, Tryz.ntmps142
 go_wp2_with fail
 go_loopw [0, 5] (fun nv sv wr => ∃ (c : Nat) (t : List UInt8), nv = .int .i64 c ∧ sv = .string (bT t) ∧ c ≤ N ∧ decInv N c t ∧ w = wr) (fun nv sv _ => (intOf nv).toNat + strZ sv)
 case atStart => exact ⟨N, [], rfl, rfl, Nat.le_refl _, decInv_start N, rfl⟩
 case round =>
  obtain ⟨c, t, rfl, rfl, hc, hinv, rfl⟩ := hrel
  have hsz : (bT t).size ≤ 18 := by have := decInv_len hinv; have := HL.out; rw [bT_size]; omega
  have hst := fun h => decInv_step hinv h
  have HST := hid hst
  have hx := dig10_at (c % 10) (Nat.mod_lt _ (by decide))
  have HX := hid hx
  have HINV := hid hinv
  clear hst hx hinv
  by_cases h0 : 0 < c
  ·go_wp2_with fail
   have hx := HX.out
   unfold dig10 at hx
   refine ⟨⟨c / 10, (UInt8.ofNat (48 + c % 10) :: t), by first | omega | (congr 1; done) | (congr 1; omega) | rfl, by rw [hx, bT_app]; rfl, by omega, HST.out (.inl h0), by trivial⟩, ?_⟩
   rw [hx, bT_app]
   simp only [strZ, bT_size, intOf]
   simp
   omega
  ·have hc0 : c = 0 := by omega
   subst hc0
   by_cases ht : t = []
   ·subst ht
    go_wp2_with fail
    exact ⟨⟨0, [48], rfl, by first | rfl | (congr 1; decide), by omega, HST.out (.inr rfl), by trivial⟩, by first | decide | kernel_rfl | (simp [strZ, intOf]; decide)⟩
   ·have hs1 : ¬ (bT t).size < 1 := by rw [bT_size]; have := List.length_pos_iff.2 ht; omega
    have he := decInv_end HINV.out ht
    have HE := hid he; clear he
    go_wp2_with fail
    go_ret
    exact ⟨by rw [HE.out]; rfl, rfl⟩

end Go.Proofs.YtoebgfgihfjnnaaGreatDoor

namespace Go.Proofs.YtoebgfgihfjnnaaGreatDoor
open Go.RowKit
set_option maxHeartbeats 2000000
set_option maxRecDepth 100000

theorem A_integer : Aggr Tryz.prog 129 := ⟨_, Tryz.underlying129, rfl⟩
theorem ints_empty (w : World) (b o cap : Nat) (h : cap ≤ 9223372036854775807) : Ints w (some ⟨b, o, none⟩) cap [] := ⟨cIntS, Nat.zero_le _, by unfold maxLen; omega, fun e => (by cases e), fun j u hu => (by simp at hu)⟩
theorem wd_ints {w : World} {a : Option Addr} {cap x : Nat} (hS : Ints w a cap [(x : Int)]) : Ints w a cap (wD x) := by
 by_cases hx : x = 0
 ·subst hx
  obtain ⟨b, o, rfl, _⟩ := hS.cells (by decide) 0 0 (by simp)
  exact ints_empty _ _ _ _ hS.max
 ·rw [wD_pos (by omega)]; exact hS
theorem wd_cases (x : Nat) : (x = 0 ∧ wD x = []) ∨ (0 < x ∧ wD x = [(x : Int)]) := by
 by_cases hx : x = 0
 ·exact .inl ⟨hx, by rw [hx]; rfl⟩
 ·exact .inr ⟨by omega, wD_pos (by omega)⟩

theorem rtrim_any (x : Nat) (a : Option Addr) (cap : Nat) (w : World) (hS : Ints w a cap [(x : Int)]) :
  Calls Tryz.prog 170 #[.slice a 1 cap] w fun r w' => r = .returned (.slice a (wD x).length cap) ∧ w = w' := by
 have hcap := hS.le
 have hm0 := hS.max
 simp only [List.length_cons, List.length_nil] at hcap
 obtain ⟨b, o, rfl, hc⟩ := hS.cells (by decide) 0 0 (by simp)
 have hc := hc 0 (.int .i64 x) rfl
 simp only [Nat.mul_one, Nat.add_zero, Nat.zero_mul] at hc
 by_cases hx : x = 0
 ·subst hx
  go_enter Tryz.func170, Tryz.ntmps170
  go_wp2_with fail
  go_loopw [0] (fun v wr => (v = .slice (some ⟨b, o, none⟩) 1 cap ∨ v = .slice (some ⟨b, o, none⟩) 0 cap) ∧ w = wr) (fun v _ => lenV v)
  case atStart => exact ⟨.inl rfl, rfl⟩
  case round =>
   obtain ⟨rfl | rfl, rfl⟩ := hrel
   ·go_wp2_with fail
    exact ⟨⟨.inr rfl, by trivial⟩, by simp [lenV]⟩
   ·go_wp2_with fail
    go_ret
    exact ⟨rfl, rfl⟩
 ·have hxi : ((x : Int) == 0) = false := by simp; omega
  have hw : wD x = [(x : Int)] := wD_pos (by omega)
  rw [hw]
  clear hw
  go_enter Tryz.func170, Tryz.ntmps170
  go_wp2_with fail
  go_loopw [0] (fun v wr => v = .slice (some ⟨b, o, none⟩) 1 cap ∧ w = wr) (fun v _ => 0)
  case atStart => exact ⟨rfl, rfl⟩
  case round =>
   obtain ⟨rfl, rfl⟩ := hrel
   go_wp2_with fail
   go_ret
   exact ⟨rfl, rfl⟩
theorem rtrimE_any (a : Option Addr) (cap : Nat) (w : World) :
  Calls Tryz.prog 170 #[.slice a 0 cap] w fun r w' => r = .returned (.slice a 0 cap) ∧ w = w' := by
 go_enter Tryz.func170, Tryz.ntmps170
 go_wp2_with fail
 go_loopw [0] (fun v wr => v = .slice a 0 cap ∧ w = wr) (fun v _ => 0)
 case atStart => exact ⟨rfl, rfl⟩
 case round =>
  obtain ⟨rfl, rfl⟩ := hrel
  go_wp2_with fail
  go_ret
  exact ⟨rfl, rfl⟩
theorem rsigned_any (x : Nat) (a : Option Addr) (cap : Nat) (w : World) (hS : Ints w a cap [(x : Int)]) :
  Calls Tryz.prog 143 #[.bool false, .slice a 1 cap] w fun r w' => r = .returned (.agg #[.bool false, .slice a (wD x).length cap]) ∧ Below w.heap.size w w' := by
 have CT := fun w (hS : Ints w a cap [(x : Int)]) => rtrim_any x a cap w hS
 have HT := hid CT; clear CT
 have hl := wD_len x
 have hS0 := (SL.nil w).box (.cells #[.bool false, .slice none 0 0] 129)
 go_enter Tryz.func143, Tryz.ntmps143
 go_wp2_with fail
 refine (HT.out _ (hS.alloc _)).mono ?_
 rintro e w1 ⟨rfl, rfl⟩
 go_wp2_with ((with_reducible refine wpList_stoR (us := #[.bool false, .slice a (wD x).length cap]) 0 wU wU (hS0) wU kR wU wU ?_); intro w2 hS2)
 exact bodyPost_ret (results_cell rfl rfl A_integer kR (hS2.blk 0 rfl).1) rfl ⟨rfl, hS2.b⟩
theorem rsignedE_any (a : Option Addr) (cap : Nat) (w : World) :
  Calls Tryz.prog 143 #[.bool false, .slice a 0 cap] w fun r w' => r = .returned (.agg #[.bool false, .slice a 0 cap]) ∧ Below w.heap.size w w' := by
 have CT := fun w => rtrimE_any a cap w
 have HT := hid CT; clear CT
 have hS0 := (SL.nil w).box (.cells #[.bool false, .slice none 0 0] 129)
 go_enter Tryz.func143, Tryz.ntmps143
 go_wp2_with fail
 refine (HT.out _).mono ?_
 rintro e w1 ⟨rfl, rfl⟩
 go_wp2_with ((with_reducible refine wpList_stoR (us := #[.bool false, .slice a 0 cap]) 0 wU wU (hS0) wU kR wU wU ?_); intro w2 hS2)
 exact bodyPost_ret (results_cell rfl rfl A_integer kR (hS2.blk 0 rfl).1) rfl ⟨rfl, hS2.b⟩

theorem SL.ownB {α : Type} {c : α → Value} {sz B n cap : Nat} {e : TypeId} {w0 w : World} {L : List Pc} {a : Option Addr} {l : List α} (h : SL B w0 w L) (i : Nat) (hi : L[i]? = some (pOwn c sz e (.slice a n cap) l)) : ∀ b, a = some b → B ≤ b.block := by
 obtain ⟨b, hP, hB, _⟩ := h.upd i hi
 intro b' e1
 subst e1
 exact hB b'.block (hP.2.symm.trans rfl)
theorem rwhole_any (x : Nat) (w : World) (hx : x < 1000000000) :
  Calls Tryz.prog 105 #[.int .i64 x] w fun r w' => ∃ a cap, r = .returned (.agg #[.bool false, .slice a (wD x).length cap]) ∧ Ints w' a cap (wD x) ∧ (∀ b, a = some b → w.heap.size ≤ b.block) ∧ Below w.heap.size w w' := by
 have CS := fun a cap w hS => rsigned_any x a cap w hS
 have CE := fun a cap w => rsignedE_any a cap w
 have HS := hid CS; have HE := hid CE; clear CS CE
 have hS0 := ((SL.nil w).box (.cells #[.bool false, .slice none 0 0] 129)).nilS (α := Int) (c := cInt) (sz := 1) (e := 3) cIntS
 by_cases h0 : x = 0
 ·subst h0
  go_enter Tryz.func105, Tryz.ntmps105
  go_wp2_with fail
  go_loopw [0, 3, 5] (fun nv wv _ wr => nv = .int .i64 0 ∧ wv = .slice none 0 0 ∧ SL w.heap.size w wr [pBlk w.heap.size (.cells #[.bool false, .slice none 0 0] 129)]) (fun _ _ _ _ => 0)
  case atStart => exact ⟨rfl, rfl, hS0.tail⟩
  case round =>
   obtain ⟨rfl, rfl, hSL⟩ := hrel
   go_wp2_with fail
   refine (HE.out none 0 wr).mono ?_
   rintro e w1 ⟨rfl, b1⟩
   have hSL1 := hSL.mono b1
   go_wp2_with ((with_reducible refine wpList_stoR (us := #[.bool false, .slice none 0 0]) 0 wU wU (hSL1) wU kR wU wU ?_); intro w2 hS2)
   exact bodyPost_ret (results_cell rfl rfl A_integer kR (hS2.blk 0 rfl).1) rfl ⟨none, 0, rfl, ints_nil _, (fun b e => by cases e), hS2.b⟩
 ·have hmod : (x : Int) % 1000000000 = x := Int.emod_eq_of_lt (by omega) (by omega)
  have hdiv : (x : Int) / 1000000000 = 0 := Int.ediv_eq_zero_of_lt (by omega) (by omega)
  have hne : ((x : Int) != 0) = true := by simp; omega
  go_enter Tryz.func105, Tryz.ntmps105
  go_wp2_with fail
  go_loopw [0, 3, 5] (fun nv wv _ wr => ∃ (c : Nat) (l : List Int), nv = .int .i64 c ∧ ((c = x ∧ l = []) ∨ (c = 0 ∧ l = [(x : Int)])) ∧ SL w.heap.size w wr [pOwn cInt 1 3 wv l, pBlk w.heap.size (.cells #[.bool false, .slice none 0 0] 129)]) (fun nv _ _ _ => (intOf nv).toNat)
  case atStart => exact ⟨x, [], rfl, .inl ⟨rfl, rfl⟩, hS0⟩
  case round =>
   clear hS0
   obtain ⟨c, l, rfl, ⟨rfl, rfl⟩ | ⟨rfl, rfl⟩, hSL⟩ := hrel
   ·have hl0 : ([] : List Int).length ≤ 5 := by simp
    go_wp2_with ((with_reducible refine wpList_pushL (y := (c : Int)) 0 E_ints wU wU (hSL) wU cIntO ⟨rfl, rfl⟩ (by first | with_unfolding_all rfl | simp) wU (by first | omega | (simp; omega)) (by first | omega | (simp; omega)) ?_); intro v3 w3 hS3)
    exact ⟨⟨0, _, rfl, .inr ⟨rfl, rfl⟩, hS3⟩, by simp [intOf]; omega⟩
   ·obtain ⟨a, cap, rfl, hR⟩ := hSL.slice 0 rfl
    clear hmod hdiv hne
    go_wp2_with fail
    refine (HS.out a cap wr hR).mono ?_
    rintro e w1 ⟨rfl, b1⟩
    have hSL1 := hSL.mono b1
    go_wp2_with ((with_reducible refine wpList_stoR (us := #[.bool false, .slice a (wD x).length cap]) 1 wU wU (hSL1) wU kR wU wU ?_); intro w2 hS2)
    exact bodyPost_ret (results_cell rfl rfl A_integer kR (hS2.blk 1 rfl).1) rfl ⟨a, cap, rfl, wd_ints (hS2.rd 0 rfl), hS2.ownB 0 rfl, hS2.b⟩

theorem rtext_any (x : Nat) (v : Value) (w : World) (hx : x < 1000000000) (hv : NatR w v x) :
  Calls Tryz.prog 104 #[v] w fun r w' => r = .returned (.string (itoaB x)) ∧ Below w.heap.size w w' := by
 obtain ⟨a, cap, rfl, hR⟩ := hv
 have CD := fun w => rdecimal_any x w (by omega)
 have HD := hid CD; clear CD
 rcases wd_cases x with ⟨h0, hw⟩ | ⟨h0, hw⟩
 ·subst h0
  rw [hw]
  have hz : itoaB ((0 : Nat) : Int) = ⟨#[48]⟩ := by rw [itoaB_nat, decD_small (by decide)]; rfl
  rw [hz]
  clear hz hw hR
  go_enter Tryz.func104, Tryz.ntmps104
  go_wp2_with fail
  go_ret
  exact ⟨rfl, bal (Below.refl _ _) _⟩
 ·rw [hw] at hR ⊢
  clear hw
  have hR1 := hR.alloc (.cells #[.bool false, .slice a 1 cap] 129)
  go_enter Tryz.func104, Tryz.ntmps104
  go_wp2_with (with_reducible refine wpList_idx _ 0 E_ints F_int cInt1 wU wU (hR1) oD oD (fun _ => wU) (fun _ => ?_))
  refine (HD.out _).mono ?_
  rintro e w1 ⟨rfl, rfl⟩
  go_wp2_with fail
  go_loopw [3, 4] (fun sv iv wr => sv = .string (itoaB x) ∧ iv = .int .i64 (-1) ∧ wr = w.alloc (.cells #[.bool false, .slice a 1 cap] 129)) (fun _ _ _ => 0)
  case atStart => exact ⟨rfl, rfl, rfl⟩
  case round =>
   obtain ⟨rfl, rfl, rfl⟩ := hrel
   go_wp2_with fail
   go_ret
   exact ⟨rfl, bal (Below.refl _ _) _⟩

theorem rFromInt_any (x : Nat) (w : World) (hx : x < 1000000000) :
  Calls Tryz.prog 47 #[.int .i64 x] w fun r w' => r = .returned (.string (itoaB x)) ∧ Below w.heap.size w w' := by
 have CW := fun w => rwhole_any x w hx
 have CT := fun v w hv => rtext_any x v w hx hv
 have HW := hid CW; have HT := hid CT; clear CW CT
 go_enter Tryz.func47, Tryz.ntmps47
 go_wp2_with fail
 refine (HW.out w).mono ?_
 rintro e w1 ⟨a1, c1, rfl, h1, _, b1⟩
 go_wp2_with fail
 refine (HT.out _ w1 ⟨a1, c1, rfl, h1⟩).mono ?_
 rintro e w2 ⟨rfl, b2⟩
 go_wp2_with fail
 go_ret
 exact ⟨rfl, bnext b1 b2⟩

end Go.Proofs.YtoebgfgihfjnnaaGreatDoor

namespace Go.Proofs.YtoebgfgihfjnnaaGreatDoor
open Go.RowKit
set_option maxHeartbeats 2000000
set_option maxRecDepth 100000

end Go.Proofs.YtoebgfgihfjnnaaGreatDoor

namespace Go.Proofs
open Go.Shelf
def Tryz.laysM146_ren : Go.Shelf.Ren := ⟨fun | 146 => 85 | 221 => 123 | 268 => 154 | 138 => 155 | 143 => 156 | 195 => 182 | 197 => 183 | 218 => 184 | 219 => 185 | 260 => 209 | 217 => 210 | 225 => 211 | 224 => 212 | 267 => 213 | 266 => 228 | 314 => 229 | n => n, fun | 9 => 9 | 31 => 116 | 3 => 3 | 4 => 4 | 0 => 0 | 105 => 217 | 21 => 21 | 5 => 5 | 46 => 239 | 119 => 257 | 139 => 260 | 138 => 259 | 146 => 261 | 51 => 237 | n => n, fun | 1 => 0 | 3 => 4 | 4 => 5 | n => n⟩
theorem Tryz.laysM146 : Go.Proofs.LaysM.n146 Tryz.prog Tryz.laysM146_ren := {
 mixed := by kernel_rfl
 f138 := Tryz.func155.trans (congrArg some (by kernel_rfl))
 f143 := Tryz.func156.trans (congrArg some (by kernel_rfl))
 f146 := Tryz.func85.trans (congrArg some (by kernel_rfl))
 f195 := Tryz.func182.trans (congrArg some (by kernel_rfl))
 f197 := Tryz.func183.trans (congrArg some (by kernel_rfl))
 f217 := Tryz.func210.trans (congrArg some (by kernel_rfl))
 f218 := Tryz.func184.trans (congrArg some (by kernel_rfl))
 f219 := Tryz.func185.trans (congrArg some (by kernel_rfl))
 f221 := Tryz.func123.trans (congrArg some (by kernel_rfl))
 f224 := Tryz.func212.trans (congrArg some (by kernel_rfl))
 f225 := Tryz.func211.trans (congrArg some (by kernel_rfl))
 f260 := Tryz.func209.trans (congrArg some (by kernel_rfl))
 f266 := Tryz.func228.trans (congrArg some (by kernel_rfl))
 f267 := Tryz.func213.trans (congrArg some (by kernel_rfl))
 f268 := Tryz.func154.trans (congrArg some (by kernel_rfl))
 f314 := Tryz.func229.trans (congrArg some (by kernel_rfl))
 t0 := Tryz.underlying0
 a0 := Tryz.isAgg0
 z0 := Tryz.sizeOf0
 v0 := Tryz.zeroValue0
 t3 := Tryz.underlying3
 a3 := Tryz.isAgg3
 z3 := Tryz.sizeOf3
 v3 := Tryz.zeroValue3
 t4 := Tryz.underlying4
 a4 := Tryz.isAgg4
 z4 := Tryz.sizeOf4
 v4 := Tryz.zeroValue4
 t5 := Tryz.underlying5
 a5 := Tryz.isAgg5
 z5 := Tryz.sizeOf5
 v5 := Tryz.zeroValue5
 t9 := Tryz.underlying9
 a9 := Tryz.isAgg9
 z9 := Tryz.sizeOf9
 v9 := Tryz.zeroValue9
 t21 := Tryz.underlying21
 a21 := Tryz.isAgg21
 z21 := Tryz.sizeOf21
 v21 := Tryz.zeroValue21
 t31 := Tryz.underlying116
 a31 := Tryz.isAgg116
 z31 := Tryz.sizeOf116
 v31 := Tryz.zeroValue116
 t46 := Tryz.underlying239
 a46 := Tryz.isAgg239
 z46 := Tryz.sizeOf239
 v46 := Tryz.zeroValue239
 t51 := Tryz.underlying237
 a51 := Tryz.isAgg237
 z51 := Tryz.sizeOf237
 v51 := Tryz.zeroValue237
 t105 := Tryz.underlying217
 a105 := Tryz.isAgg217
 z105 := Tryz.sizeOf217
 v105 := Tryz.zeroValue217
 t119 := Tryz.underlying257
 a119 := Tryz.isAgg257
 z119 := Tryz.sizeOf257
 t138 := Tryz.underlying259
 a138 := Tryz.isAgg259
 z138 := Tryz.sizeOf259
 v138 := Tryz.zeroValue259
 t139 := Tryz.underlying260
 a139 := Tryz.isAgg260
 z139 := Tryz.sizeOf260
 v139 := Tryz.zeroValue260
 t146 := Tryz.underlying261
 a146 := Tryz.isAgg261
 z146 := Tryz.sizeOf261
 v146 := Tryz.zeroValue261
 g1 := by kernel_rfl
 g3 := by kernel_rfl
 g4 := by kernel_rfl
 i0 := by kernel_rfl
 i3 := by kernel_rfl
 i4 := by kernel_rfl
 i5 := by kernel_rfl
 i9 := by kernel_rfl
 i21 := by kernel_rfl
 i31 := by kernel_rfl
 i46 := by kernel_rfl
 i51 := by kernel_rfl
 i105 := by kernel_rfl
 i138 := by kernel_rfl
 i139 := by kernel_rfl
 i146 := by kernel_rfl
 m1 := by kernel_rfl
 s1_3 := fun w h => Go.Proofs.cell_of_shapedOpen_int (zero := #[.int .i64 0]) (t := 3) h (of_decide_eq_true (by kernel_rfl)) (by kernel_rfl) rfl (by kernel_rfl) (by kernel_rfl) Tryz.underlying3
 m3 := by kernel_rfl
 m4 := by kernel_rfl }

end Go.Proofs

namespace Go.Proofs.YtoebgfgihfjnnaaGreatDoor
open Go.RowKit
set_option maxRecDepth 100000

theorem gPowT : (Tryz.prog.globals[1]?).map (·.type) = some 236 := by kernel_rfl
/-- a row's condition lays the table. -/
theorem tabW_of {W : World} {l : List (String × DataW Unit)} (hL : laidMetH Tryz.prog l W) (he : (l.filter fun x => x.2.handleName?.isNone).filter (fun p => p.1 == "internal/strconv.uint64pow10") = [("internal/strconv.uint64pow10", Lib.tabData .u64 Lib.pow10Tab)]) : TabW W := by
 have h := (laidMetH_iff.1 hL).1.filter (fun p => p.1 == "internal/strconv.uint64pow10")
 rw [he] at h
 exact Lib.tabIs_of_head gPow gPowT Tryz.underlying236 Tryz.underlying212 kR kR h
end Go.Proofs.YtoebgfgihfjnnaaGreatDoor

namespace Go.Proofs.YtoebgfgihfjnnaaGreatDoor
open Go.RowKit Go.ChangeShapes Go.WideShapes Go.ChangeAt
set_option maxRecDepth 100000

theorem kidsP : Kids Tryz.prog (· < Tryz.prog.types.size) := kids_rows kR kR
theorem fullP : ∀ t e, t < Tryz.prog.types.size → Tryz.prog.underlying t = some (.slice e) → 0 < Tryz.prog.cellsOf e := slices_full_of Tryz.prog kR

section
variable {H : Type} {enc : TypeId × Value → H} {P : Program} {W W' : World}
theorem trodAll_carryW {base : Nat} {sp : Nat → Bool} {held : Bool} : ∀ {ts : List TypeId} {vs : List Value} {ds : List (DataW H)} {ps : List MemPlace}, DataW.TrodAll enc P W base sp held ts vs ds ps → (∀ p ∈ ps, W.sameAt W' p) → DataW.TrodAll enc P W' base sp held ts vs ds ps
 | [], [], [], _, h, _ => h
 | _ :: _, _ :: _, _ :: _, _, ⟨p, q, ⟨n, h1⟩, h2, e⟩, hs => ⟨p, q, ⟨n, DataW.trod_carry n _ _ _ h1 (fun x hx => hs x (by rw [e]; exact List.mem_append_left _ hx))⟩, trodAll_carryW h2 (fun x hx => hs x (by rw [e]; exact List.mem_append_right _ hx)), e⟩
theorem sameAt_below (hb : Below W.heap.size W W') {p : MemPlace} (h : p.block < W.heap.size) : W.sameAt W' p := by
 cases p with
 | cell b off => exact (hb.cell (p := ⟨b, off, none⟩) h)
 | map b => exact hb.block b h
theorem kept_below (hb : Below W.heap.size W W') (may : MemPlace → Prop) : W.keptBut W' may := by
 refine ⟨hb.os, hb.output, fun i hi => ?_⟩
 rw [hb.block i hi]
 cases h : W.heap[i]? with
 | none => rfl
 | some o =>
  cases o with
  | cells c t fr => exact ⟨rfl, rfl, rfl, fun _ _ => rfl⟩
  | map es clock => exact .inr ⟨rfl, rfl⟩
  | _ => rfl
/-- a law that returns true and turns nothing that was there. -/
theorem law_post {f : Func} {s : ChangeSpec} {args : Array Value} {ds gs : List (DataW H)} {before : List MemPlace} (hv : s.vars = []) (hr : f.resultTypes = #[4]) (hp : ∀ t ∈ f.params.toList, t < Tryz.prog.types.size)
   (hs : (s.fn H ds).results = [.lit (.bool true)] ∧ (s.fn H ds).args = ds ∧ (s.fn H ds).vars = [])
   (hW : DataW.Whole enc Tryz.prog f.params.toList s.vars false W args.toList ds gs before) (hb : Below W.heap.size W W') : s.post enc Tryz.prog f false true false false W args (.bool true) W' := by
 have hlt := hW.lt
 have hW' := hW
 obtain ⟨p, q, hA, hV, rfl, hfz, _⟩ := hW
 rw [hv] at hV
 have hgs : gs = [] ∧ q = [] := by
  cases gs with
  | nil => exact ⟨rfl, hV⟩
  | cons g gs => exact absurd hV id
 obtain ⟨rfl, rfl⟩ := hgs
 simp only [List.append_nil] at hlt hW' ⊢
 have hsame : ∀ p' ∈ p, W.sameAt W' p' := fun p' hp' => sameAt_below hb (hlt p' hp')
 refine ⟨ds, [], p, [], p, [], hW', ?_, ?_, ?_, kept_below hb _, fun h => by cases h⟩
 ·rw [List.append_nil, hs.1, hr]
  exact trodAll_cons_mk (shut_bool Tryz.underlying4 _) trodAll_mk0
 ·rw [List.append_nil, hs.2.1]
  exact DataW.TrodAll.respare kidsP fullP hp (trodAll_carryW hA hsame) (fun p' hp' => by simpa using hlt p' hp')
 ·rw [List.append_nil, hs.2.2, hv]
  rfl
end
end Go.Proofs.YtoebgfgihfjnnaaGreatDoor

namespace Go.Proofs.YtoebgfgihfjnnaaGreatDoor
open Go.RowKit Go.ChangeShapes Go.WideShapes Go.ChangeAt Go.Joins Go.Deep
set_option maxRecDepth 100000
theorem cellsInt : Tryz.prog.cellsOf 3 = 1 := by kernel_rfl
theorem inI_wf {x : Int} (h : (Lit.int .i64 x).wf = true) : InI x := by
 simp [Lit.wf, IntKind.min, IntKind.max, IntKind.bits, IntKind.signed] at h
 unfold InI
 omega
section
variable {H : Type} {enc : TypeId × Value → H} {W : World}
theorem ints_of_cells {a : Addr} {zs : List Int} {len cap : Nat} (hl : len ≤ cap) (hm : cap ≤ maxLen) (hz : len ≤ zs.length) (hc : ∀ i, i < zs.length → W.cell? (a.add i) = some (.int .i64 (zs.getD i 0))) : Ints W (some a) cap (zs.take len) := by
 have hlen : (zs.take len).length = len := by simp; omega
 refine ⟨cIntS, by rw [hlen]; exact hl, hm, fun h => (by cases h), fun j u hj => ?_⟩
 have hfm : ((zs.take len).flatMap fun x => (cInt x).cells.toList) = (zs.take len).map fun x => Value.int .i64 x := by
  generalize zs.take len = l
  induction l with
  | nil => rfl
  | cons x r ih => rw [List.flatMap_cons, ih]; rfl
 rw [hfm, List.getElem?_map] at hj
 have hjl : j < len := by
  obtain ⟨x, hx, _⟩ := Option.map_eq_some_iff.1 hj
  have := (List.getElem?_eq_some_iff.1 hx).1
  simp at this; omega
 have h0 := hc 0 (by omega)
 have hsp : a.spot = none := by
  unfold World.cell? Addr.add at h0
  simp only [if_pos] at h0
  split at h0
  ·split at h0
   ·cases h0
   ·next h => simpa using h
  ·cases h0
 refine ⟨a.block, a.off, by rw [← hsp], ?_⟩
 have hj0 := hc j (by omega)
 have e : a.add j = ⟨a.block, a.off + j, none⟩ := by
  unfold Addr.add
  split
  ·next h => subst h; rw [← hsp]; rfl
  ·rfl
 rw [e] at hj0
 rw [hj0, ← hj]
 have h2 : j < zs.length := by omega
 simp [List.getElem?_take, hjl, h2]
theorem open_intsA {r : Reach} {b0 : Nat} {v : Value} {d : DataW H} {ps : List MemPlace} (hval : Value.okWide Tryz.prog W r b0 22 v) (h : DataW.Trod enc Tryz.prog W 0 (fun _ => true) true 22 v d ps) : ∃ a cap l, v = .slice a l.length cap ∧ Ints W a cap l ∧ ∀ x ∈ l, InI x := by
 obtain ⟨a0, len, cap, rfl⟩ := okWide_slice Tryz.underlying22 hval
 obtain ⟨fuel, hf⟩ := h
 rcases open_ints Tryz.underlying22 Tryz.underlying3 cellsInt hf with ⟨hcs, _⟩ | ⟨a, len', cap', zs, hcs, _, hl, hm, hz, _, hcell, hwz⟩
 ·simp [Value.cells] at hcs
  obtain ⟨rfl, rfl, rfl⟩ := hcs
  exact ⟨_, _, [], rfl, ints_nil W, fun x hx => by cases hx⟩
 ·simp [Value.cells] at hcs
  obtain ⟨rfl, rfl, rfl⟩ := hcs
  simp only [if_true] at hz
  have hlen : (zs.take len).length = len := by simp; omega
  refine ⟨some a, cap, zs.take len, by rw [hlen], ints_of_cells hl hm (by omega) hcell, fun x hx => ?_⟩
  exact inI_wf (hwz x (List.mem_of_mem_take hx))
end
end Go.Proofs.YtoebgfgihfjnnaaGreatDoor

namespace Go.Proofs.YtoebgfgihfjnnaaGreatDoor
open Go.RowKit Go.ChangeShapes Go.WideShapes Go.ChangeAt Go.Joins Go.Deep
set_option maxRecDepth 100000

section
variable {H : Type} {enc : TypeId × Value → H} {W : World}
end
end Go.Proofs.YtoebgfgihfjnnaaGreatDoor

namespace Go.Proofs.YtoebgfgihfjnnaaGreatDoor
open Go.RowKit Go.ChangeShapes Go.WideShapes Go.ChangeAt Go.Joins Go.Deep
set_option maxRecDepth 100000

section
variable {H : Type} {enc : TypeId × Value → H} {W : World}
end
end Go.Proofs.YtoebgfgihfjnnaaGreatDoor

namespace Go.Proofs.YtoebgfgihfjnnaaGreatDoor
open Go.RowKit
set_option maxRecDepth 100000

theorem spl_pos (c : UInt8) : ∀ (l cur : List UInt8), 0 < (splR c cur l).length
 | [], cur => by simp [splR]
 | b :: r, cur => by
   rw [splR]
   split
   · simp
   · exact spl_pos c r _
instance (b : UInt8) : Decidable (isDig b) := inferInstanceAs (Decidable (_ ∧ _))
instance (l : List UInt8) : Decidable (canon l) := inferInstanceAs (Decidable (_ ∧ _ ∧ _))
end Go.Proofs.YtoebgfgihfjnnaaGreatDoor

namespace Go.Proofs.YtoebgfgihfjnnaaGreatDoor
open Go.RowKit
set_option maxHeartbeats 4000000
set_option maxRecDepth 100000

end Go.Proofs.YtoebgfgihfjnnaaGreatDoor

namespace Go.Proofs.YtoebgfgihfjnnaaGreatDoor
open Go.RowKit
set_option maxHeartbeats 4000000
set_option maxRecDepth 100000

theorem take_drop_step {S : List UInt8} {i f : Nat} (h : i < S.length) (hf : f ≤ i) : (S.take (i + 1)).drop f = (S.take i).drop f ++ [S[i]] := by
 rw [List.take_succ_eq_append_getElem h, List.drop_append_of_le_length (by simp; omega)]
end Go.Proofs.YtoebgfgihfjnnaaGreatDoor

namespace Go.Proofs.YtoebgfgihfjnnaaGreatDoor
open Go.RowKit
set_option maxHeartbeats 4000000
set_option maxRecDepth 100000

section
variable {P : Program} {ops : Array Oper} {rest : List Oper} {a : Act} {Qa : Act → Prop} {α : Type} {c : α → Value} {sz bytes : Nat} {t e t2 e2 : TypeId} {z : Value} {ad : Option Addr} {cap : Nat} {l : List α} {k : Int} {w : World}
 {d1 d2 d3 : Tmp} {ty1 ty2 ty3 : TypeId} {p1 p2 p3 : String} {s x : Operand} {af1 af2 af3 : Array Edge} {j : Nat}
end

end Go.Proofs.YtoebgfgihfjnnaaGreatDoor

namespace Go.Proofs.YtoebgfgihfjnnaaGreatDoor
open Go.RowKit
set_option maxRecDepth 100000

theorem gSynT : (Tryz.prog.globals[2]?).map (·.type) = some 158 := by kernel_rfl
theorem gRngT : (Tryz.prog.globals[3]?).map (·.type) = some 158 := by kernel_rfl
theorem starErr : "*" ++ "errors.errorString" = "*errors.errorString" := by decide
theorem rowErr (u : TypeId) (h : Tryz.prog.typeName? 3 u = some "*errors.errorString") : u = 264 :=
 typeName_ptr_named (nm := "errors.errorString") (by rw [starErr]; kernel_rfl) kR (by decide) u (by rw [starErr]; exact h)
theorem cErr : Tryz.prog.cellsOf 266 = 1 := by kernel_rfl
theorem cStr1' : Tryz.prog.cellsOf 9 = 1 := by kernel_rfl
theorem libW_of {W : World} {l : List (String × DataW Unit)} {t1 t2 : List UInt8} (hL : laidMetH Tryz.prog l W) (hsh : W.ShapedOpen Tryz.prog)
  (h1 : (l.filter fun x => x.2.handleName?.isNone).filter (fun p => p.1 == "internal/strconv.uint64pow10") = [("internal/strconv.uint64pow10", Lib.tabData .u64 Lib.pow10Tab)])
  (h2 : (l.filter fun x => x.2.handleName?.isNone).filter (fun p => p.1 == "strconv.ErrSyntax") = [("strconv.ErrSyntax", .iface "*errors.errorString" (.ptr (.agg [.lit (.string t1)])))])
  (h3 : (l.filter fun x => x.2.handleName?.isNone).filter (fun p => p.1 == "strconv.ErrRange") = [("strconv.ErrRange", .iface "*errors.errorString" (.ptr (.agg [.lit (.string t2)])))]) : LibW W := by
 refine ⟨tabW_of hL h1, Tryz.laysM146.s1_3 W hsh, ?_, ?_⟩
 ·have h := (laidMetH_iff.1 hL).1.filter (fun p => p.1 == "strconv.ErrSyntax")
  rw [h2] at h
  obtain ⟨a, s, hv, _⟩ := laid_sentinel h gSyn gSynT Tryz.underlying158 rowErr Tryz.underlying264 Tryz.underlying266 rfl rfl Tryz.underlying9 cErr cStr1'
  exact ⟨_, _, hv⟩
 ·have h := (laidMetH_iff.1 hL).1.filter (fun p => p.1 == "strconv.ErrRange")
  rw [h3] at h
  obtain ⟨a, s, hv, _⟩ := laid_sentinel h gRng gRngT Tryz.underlying158 rowErr Tryz.underlying264 Tryz.underlying266 rfl rfl Tryz.underlying9 cErr cStr1'
  exact ⟨_, _, hv⟩
section
open Go.ChangeMaps
variable {H : Type} {enc : TypeId × Value → H} {W : World}
theorem open_strA {r : Reach} {b0 : Nat} {v : Value} {d : DataW H} {ps : List MemPlace} (hval : Value.okWide Tryz.prog W r b0 9 v) (h : DataW.Trod enc Tryz.prog W 0 (fun _ => true) true 9 v d ps) : ∃ s : ByteArray, v = .string s ∧ s.size ≤ 9223372036854775807 := by
 obtain ⟨s, rfl, _, _, hs⟩ := open_string Tryz.underlying9 hval h
 exact ⟨s, rfl, by unfold maxLen at hs; omega⟩
end
end Go.Proofs.YtoebgfgihfjnnaaGreatDoor

namespace Go.Proofs.YtoebgfgihfjnnaaGreatDoor
open Go.ChangeShapes Go.WideShapes Go.ChangeAt Go.RowKit
set_option maxRecDepth 100000
theorem ownP : ownKnob Tryz.prog.godebug = none := by kernel_rfl
end Go.Proofs.YtoebgfgihfjnnaaGreatDoor

namespace Go.Proofs.YtoebgfgihfjnnaaGreatDoor
open Go.ChangeShapes Go.WideShapes Go.ChangeAt Go.RowKit
set_option maxRecDepth 100000
theorem g1 : (laidOutB Tryz.prog) = true := by kernel_rfl
theorem g2 : (mapsRowed Tryz.prog) = true := by kernel_rfl
theorem g6 : ((Tryz.prog.stops == [])) = true := by kernel_rfl
theorem g8 : ((Tryz.prog.stopKnobs == [])) = true := by kernel_rfl
theorem g24 : (Tryz.prog.stopsHeard) = true := by kernel_rfl
theorem g25 : (Tryz.prog.mayEnter) = true := by kernel_rfl
end Go.Proofs.YtoebgfgihfjnnaaGreatDoor

namespace Go.Proofs.YtoebgfgihfjnnaaGreatDoor
open Go.RowKit Go.ChangeShapes Go.WideShapes Go.ChangeAt Go.Joins Go.Deep
set_option maxRecDepth 100000
section
variable {H : Type} {enc : TypeId × Value → H} {W : World}
theorem open_machA {r : Reach} {b0 : Nat} {v : Value} {d : DataW H} {ps : List MemPlace} (hval : Value.okWide Tryz.prog W r b0 24 v) (h : DataW.Trod enc Tryz.prog W 0 (fun _ => true) true 24 v d ps) :
  ∃ (m : MacV) (ad : Option Addr) (cap : Nat), v = mV m ad cap ∧ Ints W ad cap m.sw ∧ InI m.gears ∧ InI m.turn ∧ ∀ x ∈ m.sw, InI x := by
 obtain ⟨v0, v1, v2, v3, y0, y1, y2, y3, n, rfl, _, _, k0, k1, k2, k3⟩ := open_agg4 Tryz.underlying24 kR rfl hval h
 obtain ⟨b, e0, _⟩ := DataW.trod_bool Tryz.underlying4 k0
 obtain ⟨x, e1, _, w1⟩ := DataW.trod_int Tryz.underlying3 k1
 obtain ⟨y, e2, _, w2⟩ := DataW.trod_int Tryz.underlying3 k2
 cases e0; cases e1; cases e2
 rcases open_ints Tryz.underlying22 Tryz.underlying3 cellsInt k3 with ⟨hcs, _⟩ | ⟨a, len', cap', zs, hcs, _, hl, hm, hz, _, hcell, hwz⟩
 ·cases hcs
  exact ⟨⟨b, x, y, []⟩, none, 0, rfl, ints_nil W, inI_wf w1, inI_wf w2, fun x hx => by cases hx⟩
 ·cases hcs
  simp only [if_true] at hz
  have hlen : (zs.take len').length = len' := by simp; omega
  refine ⟨⟨b, x, y, zs.take len'⟩, some a, cap', ?_, ints_of_cells hl hm (by omega) hcell, inI_wf w1, inI_wf w2, fun x hx => ?_⟩
  ·show _ = Value.agg #[_, _, _, .slice _ (zs.take len').length _]
   rw [hlen]
  ·exact inI_wf (hwz x (List.mem_of_mem_take hx))
end
end Go.Proofs.YtoebgfgihfjnnaaGreatDoor

namespace Go.Proofs.YtoebgfgihfjnnaaGreatDoor
set_option maxRecDepth 100000
/-- the other slot of a shared place, or -1. -/
def otherM (m : MacV) (s : Int) : Int := if (decide (0 ≤ placeM m s) && sharedM m (placeM m s)) = true then 4 * befM m (placeM m s) + 2 + 4 * placeM m s - s else -1
theorem other_over (m : MacV) (s : Int) : overM m s = if (decide (0 ≤ otherM m s) && !m.sw.contains (placeM m s)) = true then otherM m s else s := by
 unfold overM otherM goesM
 by_cases h : (decide (0 ≤ placeM m s) && sharedM m (placeM m s)) = true
 ·rw [if_pos h]
  have h0 : 0 ≤ 4 * befM m (placeM m s) + 2 + 4 * placeM m s - s ∨ ¬ 0 ≤ 4 * befM m (placeM m s) + 2 + 4 * placeM m s - s := by omega
  rw [h, Bool.true_and]
  rcases h0 with h0 | h0
  ·rw [decide_eq_true h0, Bool.true_and]
  ·exfalso
   simp only [Bool.and_eq_true, decide_eq_true_eq] at h
   obtain ⟨hp, hs⟩ := h
   obtain ⟨_, h1, _⟩ := shared_iff.1 hs
   apply h0
   unfold befM
   unfold placeM at hp h1 ⊢
   split at hp <;> rename_i c
   ·rw [if_pos c] at h1 ⊢; split <;> omega
   ·rw [if_neg c] at h1 ⊢
    split at hp <;> rename_i c2
    ·rw [if_pos c2] at h1 ⊢
     split at hp <;> rename_i c3
     ·rw [if_pos c3] at h1 ⊢; rw [if_pos rfl]; omega
     ·rw [if_neg c3] at h1 ⊢; split <;> omega
    ·omega
 ·rw [if_neg h]
  have : (decide (0 ≤ placeM m s) && sharedM m (placeM m s)) = false := by simpa using h
  rw [this, Bool.false_and]
  simp
/-- in a shared place there are two slots. -/
theorem other_only {m : MacV} {s i : Int} (h0 : 0 ≤ s) (h1 : s < 4 * m.gears) (i0 : 0 ≤ i) (i1 : i < 4 * m.gears) (hp : 0 ≤ placeM m s) (hs : sharedM m (placeM m s) = true) (hne : i ≠ s) (e : placeM m i = placeM m s) : i = otherM m s := by
 unfold otherM
 rw [hs, decide_eq_true hp, if_pos (by rfl)]
 obtain ⟨_, hlt, hr⟩ := shared_iff.1 hs
 obtain ⟨p, hpp⟩ : ∃ p, p = placeM m s := ⟨_, rfl⟩
 rw [← hpp] at e hp hlt hr ⊢
 unfold placeM at hpp e
 unfold befM
 cases hrg : m.ring
 ·simp only [hrg, Bool.false_eq_true, false_and, if_false, false_or] at hpp e hr
  rw [if_neg (by omega)]
  split at hpp <;> split at e <;> first | omega | (split at hpp <;> first | omega | (split at e <;> omega)) | (split at e <;> omega)
 ·simp only [hrg, true_and] at hpp e
  split at hpp <;> split at e <;> split <;> first | omega | (split at hpp <;> first | omega | (split at hpp <;> first | omega | (split at e <;> first | omega | (split at e <;> omega)))) | (split at e <;> first | omega | (split at e <;> omega))
theorem other_is {m : MacV} {s : Int} (h0 : 0 ≤ s) (h1 : s < 4 * m.gears) (hp : 0 ≤ placeM m s) (hs : sharedM m (placeM m s) = true) : 0 ≤ otherM m s ∧ otherM m s < 4 * m.gears ∧ otherM m s ≠ s ∧ placeM m (otherM m s) = placeM m s := by
 have hm : MacV := ⟨m.ring, m.gears, m.turn, []⟩
 have := over_cases (m := ⟨m.ring, m.gears, m.turn, []⟩) h0 h1
 have e1 : ∀ x, placeM ⟨m.ring, m.gears, m.turn, []⟩ x = placeM m x := fun x => rfl
 have e2 : ∀ x, sharedM ⟨m.ring, m.gears, m.turn, []⟩ x = sharedM m x := fun x => rfl
 have e3 : ∀ x, befM ⟨m.ring, m.gears, m.turn, []⟩ x = befM m x := fun x => rfl
 have hg : goesM ⟨m.ring, m.gears, m.turn, []⟩ s = true := by
  unfold goesM
  rw [e1, e2, hs, decide_eq_true hp]
  rfl
 have eo : overM ⟨m.ring, m.gears, m.turn, []⟩ s = otherM m s := by
  unfold overM otherM
  rw [hg, if_pos rfl, e1, e3, hs, decide_eq_true hp]
  rfl
 rcases this with ⟨h, _⟩ | ⟨_, a, b, c, d, _⟩
 ·rw [hg] at h; cases h
 ·rw [eo] at a b c d
  rw [e1, e1] at c
  exact ⟨a, b, d, c⟩
/-- the switch before. -/
def prevO (l : List Int) : Nat → Option Int
 | 0 => none
 | k + 1 => some (atD 0 l k)
theorem swGo_prev (m : MacV) (k : Nat) (h : k < m.sw.length) : swGo m (prevO m.sw k) (m.sw.drop k) = if sharedM m (atD 0 m.sw k) = false then 10 else if 0 < k ∧ atD 0 m.sw k ≤ atD 0 m.sw ((k : Int) - 1) then 11 else swGo m (prevO m.sw (k + 1)) (m.sw.drop (k + 1)) := by
 rw [swGo_step m k h]
 cases k with
 | zero => simp [prevO]
 | succ j =>
  have : ((j + 1 : Nat) : Int) - 1 = j := by omega
  rw [this]
  simp only [prevO, Nat.zero_lt_succ, true_and]
end Go.Proofs.YtoebgfgihfjnnaaGreatDoor

namespace Go.Proofs.YtoebgfgihfjnnaaGreatDoor
open Go.RowKit
set_option maxHeartbeats 2000000
set_option maxRecDepth 100000

theorem A_rmach : Aggr Tryz.prog 25 := ⟨_, Tryz.underlying25, rfl⟩
theorem rOutside_any (n lo hi : Int) (w : World) :
  Calls Tryz.prog 26 #[.int .i64 n, .int .i64 lo, .int .i64 hi] w fun r w' => r = .returned (.bool (decide (n < lo) || decide (hi < n))) ∧ w = w' := by
 by_cases h : n < lo
 ·go_enter Tryz.func26, Tryz.ntmps26
  go_wp2_with fail
  go_ret
  exact ⟨by simp [h], rfl⟩
 ·go_enter Tryz.func26, Tryz.ntmps26
  go_wp2_with fail
  go_ret
  exact ⟨by rw [show decide (n < lo) = false by simpa using h]; rfl, rfl⟩
theorem rShort_any (m : MacV) (ad : Option Addr) (cap : Nat) (al : Option Addr) (cl n : Nat) (w : World) :
  Calls Tryz.prog 12 #[mV m ad cap, .slice al n cl] w fun r w' => r = .returned (.bool (decide (m.sw.length ≤ 19) && decide (n ≤ 67))) ∧ Below w.heap.size w w' := by
 by_cases h : m.sw.length ≤ 19
 ·have h2 : (m.sw.length : Int) ≤ 19 := by omega
  by_cases k : n ≤ 67
  ·have k2 : (n : Int) ≤ 67 := by omega
   go_enter Tryz.func12, Tryz.ntmps12
   go_wp2_with fail
   go_ret
   exact ⟨by simp [h, k, h2, k2], bal (Below.refl _ _) _⟩
  ·have k2 : ¬ (n : Int) ≤ 67 := by omega
   go_enter Tryz.func12, Tryz.ntmps12
   go_wp2_with fail
   go_ret
   exact ⟨by simp [h, k, h2, k2], bal (Below.refl _ _) _⟩
 ·have h2 : ¬ (m.sw.length : Int) ≤ 19 := by omega
  go_enter Tryz.func12, Tryz.ntmps12
  go_wp2_with fail
  go_ret
  exact ⟨by simp [h, h2], bal (Below.refl _ _) _⟩
theorem rSlots_any (m : MacV) (ad : Option Addr) (cap : Nat) (w : World) (h0 : 0 ≤ m.gears) (h1 : m.gears ≤ 16) :
  Calls Tryz.prog 75 #[mV m ad cap] w fun r w' => r = .returned (.int .i64 (4 * m.gears)) ∧ Below w.heap.size w w' := by
 go_enter Tryz.func75, Tryz.ntmps75
 go_wp2_with fail
 go_ret
 exact ⟨rfl, bal (Below.refl _ _) _⟩
theorem rShared_any (m : MacV) (ad : Option Addr) (cap : Nat) (p : Int) (w : World) (h0 : 1 ≤ m.gears) (h1 : m.gears ≤ 16) :
  Calls Tryz.prog 87 #[mV m ad cap, .int .i64 p] w fun r w' => r = .returned (.bool (sharedM m p)) ∧ Below w.heap.size w w' := by
 have hw : IntKind.i64.wrap (m.gears - 1) = m.gears - 1 := IntWalk.i64_in _ (by omega)
 have hS := (SL.nil w).box (.cells (mC m ad cap) 25)
 cases hr : m.ring
 ·have hs : sharedM m p = !(decide (p < 1) || decide (m.gears - 1 < p)) := by
   unfold sharedM
   rw [hr, Bool.eq_iff_iff]
   simp
   omega
  obtain ⟨b, hb⟩ : ∃ b, b = (decide (p < 1) || decide (m.gears - 1 < p)) := ⟨_, rfl⟩
  have CO := fun w => rOutside_any p 1 (m.gears - 1) w
  rw [← hb] at CO hs
  have HS := hid hs; have HO := hid CO
  clear hs CO hb
  unfold mV
  rw [hr]
  clear hr
  go_enter Tryz.func87, Tryz.ntmps87
  go_wp2_with fail
  refine (HO.out _).mono ?_
  rintro e w1 ⟨rfl, rfl⟩
  go_wp2_with fail
  go_ret
  exact ⟨by rw [HS.out]; rfl, bal (Below.refl _ _) _⟩
 ·have hs : sharedM m p = !(decide (p < 0) || decide (m.gears - 1 < p)) := by
   unfold sharedM
   rw [hr, Bool.eq_iff_iff]
   simp
   omega
  obtain ⟨b, hb⟩ : ∃ b, b = (decide (p < 0) || decide (m.gears - 1 < p)) := ⟨_, rfl⟩
  have CO := fun w => rOutside_any p 0 (m.gears - 1) w
  rw [← hb] at CO hs
  have HS := hid hs; have HO := hid CO
  clear hs CO hb
  unfold mV
  rw [hr]
  clear hr
  go_enter Tryz.func87, Tryz.ntmps87
  go_wp2_with fail
  refine (HO.out _).mono ?_
  rintro e w1 ⟨rfl, rfl⟩
  go_wp2_with fail
  go_ret
  exact ⟨by rw [HS.out]; rfl, bal (Below.refl _ _) _⟩
theorem rPlace_any (m : MacV) (ad : Option Addr) (cap : Nat) (s : Int) (w : World) (hg : m.gears ≤ 16) (h0 : 0 ≤ s) (h1 : s < 4 * m.gears) :
  Calls Tryz.prog 51 #[mV m ad cap, .int .i64 s] w fun r w' => r = .returned (.int .i64 (placeM m s)) ∧ Below w.heap.size w w' := by
 obtain ⟨g, hgq⟩ : ∃ g, g = s / 4 := ⟨_, rfl⟩
 obtain ⟨q, hq⟩ : ∃ q, q = s % 4 := ⟨_, rfl⟩
 have htd : s.tdiv 4 = g := by rw [hgq, Int.tdiv_eq_ediv_of_nonneg h0]
 have htm : s.tmod 4 = q := by rw [hq, Int.tmod_eq_emod_of_nonneg h0]
 have hp := place_prog h0 h1
 have hpl : placeM m s = if q = 0 then g else if q = 2 then (if m.ring = true ∧ g + 1 = m.gears then 0 else g + 1) else -1 := by unfold placeM; rw [hq, hgq]
 rw [← hgq] at hp
 have hq4 : q = 0 ∨ q = 1 ∨ q = 2 ∨ q = 3 := by omega
 have hg0 : 0 ≤ g ∧ g < m.gears := by omega
 have hw1 : IntKind.i64.wrap g = g := IntWalk.i64_in _ (by omega)
 have hw2 : IntKind.i64.wrap (g + 1) = g + 1 := IntWalk.i64_in _ (by omega)
 rcases hq4 with rfl | rfl | rfl | rfl
 ·rw [if_pos rfl] at hpl
  have HP := hid hpl
  clear hpl hp hq hgq
  go_enter Tryz.func51, Tryz.ntmps51
  go_wp2_with fail
  go_ret
  exact ⟨by rw [HP.out]; rfl, bal (Below.refl _ _) _⟩
 ·rw [if_neg (by decide), if_neg (by decide)] at hpl
  have HP := hid hpl
  clear hpl hp hq hgq
  go_enter Tryz.func51, Tryz.ntmps51
  go_wp2_with fail
  go_ret
  exact ⟨by rw [HP.out]; rfl, bal (Below.refl _ _) _⟩
 ·rw [if_neg (by decide), if_pos rfl, ← hp] at hpl
  obtain ⟨P, hP⟩ : ∃ P, P = placeM m s := ⟨_, rfl⟩
  rw [← hP] at hpl ⊢
  unfold mV
  cases hr : m.ring
  ·rw [hr] at hpl
   simp only [Bool.false_eq_true, if_false] at hpl
   have e2 : P = g + 1 := by rw [hpl]; exact Int.emod_eq_of_lt (by omega) (by omega)
   have HP := hid e2
   clear hpl hp hq hgq hP e2 hr
   go_enter Tryz.func51, Tryz.ntmps51
   go_wp2_with fail
   go_ret
   exact ⟨by rw [HP.out]; rfl, bal (Below.refl _ _) _⟩
  ·rw [hr] at hpl
   simp only [if_true, Int.add_zero] at hpl
   have hPb : 0 ≤ P ∧ P ≤ 64 := by
    rw [hpl]
    have a := Int.emod_nonneg (g + 1) (b := m.gears) (by omega)
    have b := Int.emod_lt_of_pos (g + 1) (b := m.gears) (by omega)
    omega
   have hmod : (g + 1).tmod m.gears = P := by rw [hpl, Int.tmod_eq_emod_of_nonneg (by omega)]
   have hnz : ¬ m.gears = 0 := by omega
   have hw : IntKind.i64.wrap P = P := IntWalk.i64_in _ (by omega)
   clear hpl hp hq hgq hP hr
   go_enter Tryz.func51, Tryz.ntmps51
   go_wp2_with fail
   go_ret
   exact ⟨rfl, bal (Below.refl _ _) _⟩
 ·rw [if_neg (by decide), if_neg (by decide)] at hpl
  have HP := hid hpl
  clear hpl hp hq hgq
  go_enter Tryz.func51, Tryz.ntmps51
  go_wp2_with fail
  go_ret
  exact ⟨by rw [HP.out]; rfl, bal (Below.refl _ _) _⟩
theorem rSet_any (m : MacV) (ad : Option Addr) (cap : Nat) (p : Int) (w : World) (hR : Ints w ad cap m.sw) :
  Calls Tryz.prog 127 #[mV m ad cap, .int .i64 p] w fun r w' => r = .returned (.bool (m.sw.contains p)) ∧ Below w.heap.size w w' := by
 have hcap := hR.le
 have hmx := hR.max
 have hS := (SL.nil w).box (.cells (mC m ad cap) 25)
 have hlen : m.sw.length ≤ 9223372036854775807 := by have := hR.max; unfold maxLen at this; omega
 go_enter Tryz.func127, Tryz.ntmps127
 go_wp2_with fail
 go_loopw [5] (fun i wr => ∃ k : Nat, k ≤ m.sw.length ∧ i = .int .i64 k ∧ (m.sw.drop k).contains p = m.sw.contains p ∧ SL w.heap.size w wr [pBlk w.heap.size (.cells (mC m ad cap) 25)]) (fun i _ => m.sw.length - (intOf i).toNat)
 case atStart => exact ⟨0, by omega, rfl, by simp, hS⟩
 case round =>
  clear hS
  obtain ⟨k, hk, rfl, hf, hSr⟩ := hrel
  have q1 := (hSr.blk 0 rfl).1
  have hRr := hR.below hSr.b
  by_cases hlt : k < m.sw.length
  ·have hs : (m.sw.drop k).contains p = ((atD 0 m.sw k == p) || (m.sw.drop (k + 1)).contains p) := by
    have e2 : atD 0 m.sw k = m.sw[k] := by simp [atD, hlt]
    rw [List.drop_eq_getElem_cons hlt, e2, List.contains_cons, Bool.beq_comm]
   rw [hf] at hs
   have HS := hid hs
   clear hs hf
   go_wp2_with (first | (with_reducible refine wpList_ldB F_sliceM wU wU q1 wU ?_) | (with_reducible refine wpList_idx _ 0 E_ints F_int cInt1 wU wU (hRr) oD oD (fun _ => wU) (fun _ => ?_)))
   ·have hd : (atD 0 m.sw k == p) = true := by assumption
    go_ret
    exact ⟨by rw [HS.out, hd]; rfl, hSr.b⟩
   ·have hd : (atD 0 m.sw k == p) = false := by assumption
    exact ⟨⟨k + 1, by omega, by go_num, by rw [HS.out, hd]; rfl, hSr⟩, by simp [intOf]; omega⟩
  ·have hkn : k = m.sw.length := by omega
   subst hkn
   rw [List.drop_length] at hf
   have HF := hid hf
   clear hf
   go_wp2_with (with_reducible refine wpList_ldB F_sliceM wU wU q1 wU ?_)
   go_ret
   exact ⟨by rw [← HF.out]; rfl, hSr.b⟩
end Go.Proofs.YtoebgfgihfjnnaaGreatDoor

namespace Go.Proofs.YtoebgfgihfjnnaaGreatDoor
open Go.RowKit
set_option maxHeartbeats 4000000
set_option maxRecDepth 100000

theorem rOther_any (m : MacV) (ad : Option Addr) (cap : Nat) (s : Int) (w : World) (hg0 : 1 ≤ m.gears) (hg : m.gears ≤ 16) (h0 : 0 ≤ s) (h1 : s < 4 * m.gears) :
  Calls Tryz.prog 74 #[mV m ad cap, .int .i64 s] w fun r w' => r = .returned (.int .i64 (otherM m s)) ∧ Below w.heap.size w w' := by
 have hS := (SL.nil w).box (.cells (mC m ad cap) 25)
 have CP := fun (x : Int) w (a : 0 ≤ x) (b : x < 4 * m.gears) => rPlace_any m ad cap x w hg a b
 have CPs := fun w => rPlace_any m ad cap s w hg h0 h1
 obtain ⟨P, hP⟩ : ∃ P, P = placeM m s := ⟨_, rfl⟩
 rw [← hP] at CPs
 have HPs := hid CPs
 clear CPs
 by_cases hp0 : P < 0
 ·have ho : otherM m s = -1 := by unfold otherM; rw [← hP, decide_eq_false (by omega)]; rfl
  have HO := hid ho
  clear ho hP CP
  go_enter Tryz.func74, Tryz.ntmps74
  go_wp2_with fail
  refine (HPs.out _).mono ?_
  rintro e w1 ⟨rfl, b1⟩
  have hS1 := hS.mono b1
  go_wp2_with fail
  go_ret
  exact ⟨by rw [HO.out]; rfl, hS1.b⟩
 ·have hpd : decide (P < 0) = false := decide_eq_false hp0
  have CS := fun w => rShared_any m ad cap P w hg0 hg
  cases hsh : sharedM m P
  ·have ho : otherM m s = -1 := by unfold otherM; rw [← hP, hsh, Bool.and_false]; rfl
   rw [hsh] at CS
   have HO := hid ho; have HS := hid CS
   clear ho hP CP CS hsh
   go_enter Tryz.func74, Tryz.ntmps74
   go_wp2_with fail
   refine (HPs.out _).mono ?_
   rintro e w1 ⟨rfl, b1⟩
   have hS1 := hS.mono b1
   have q1 := (hS1.blk 0 rfl).1
   go_wp2_with (with_reducible refine wpList_ldS (n := 4) (us := mC m ad cap) A_rmach kR wU wU (by assumption) wU wU ?_)
   refine (HS.out _).mono ?_
   rintro e w2 ⟨rfl, b2⟩
   have hS2 := hS1.mono b2
   go_wp2_with fail
   go_ret
   exact ⟨by rw [HO.out]; rfl, hS2.b⟩
  ·rw [hsh] at CS
   have ho := other_is h0 h1 (by rw [← hP]; omega) (by rw [← hP]; exact hsh)
   have hu := fun (i : Int) a b c d => other_only (m := m) (s := s) (i := i) h0 h1 a b (by rw [← hP]; omega) (by rw [← hP]; exact hsh) c d
   obtain ⟨K, hK⟩ : ∃ K : Nat, otherM m s = K := ⟨(otherM m s).toNat, by omega⟩
   obtain ⟨n, hn⟩ : ∃ n : Nat, 4 * m.gears = n := ⟨(4 * m.gears).toNat, by omega⟩
   have CN := fun w => rSlots_any m ad cap w (by omega) hg
   rw [hK] at ho hu ⊢
   rw [hn] at ho hu CP h1 CN
   rw [← hP] at ho hu
   have HS := hid CS; have HO := hid ho; have HU := hid hu; have HP := hid CP; have HN := hid CN
   have hKn : K < n := by omega
   have hn64 : n ≤ 64 := by omega
   clear CS CP CN ho hu hP hK hn hsh
   go_enter Tryz.func74, Tryz.ntmps74
   go_wp2_with fail
   refine (HPs.out _).mono ?_
   rintro e w1 ⟨rfl, b1⟩
   have hS1 := hS.mono b1
   have q1 := (hS1.blk 0 rfl).1
   go_wp2_with (with_reducible refine wpList_ldS (n := 4) (us := mC m ad cap) A_rmach kR wU wU (by assumption) wU wU ?_)
   refine (HS.out _).mono ?_
   rintro e w2 ⟨rfl, b2⟩
   have hS2 := hS1.mono b2
   go_wp2_with fail
   go_loopw [6] (fun i wr => ∃ k : Nat, k ≤ K ∧ i = .int .i64 k ∧ SL w.heap.size w wr [pBlk w.heap.size (.cells (mC m ad cap) 25)]) (fun i _ => n - (intOf i).toNat)
   case atStart => exact ⟨0, by omega, rfl, hS2⟩
   case round =>
    clear hS1 hS2 hS q1
    obtain ⟨k, hk, rfl, hSr⟩ := hrel
    have q1 := (hSr.blk 0 rfl).1
    have hkn : (k : Int) < n := by omega
    go_wp2_with (with_reducible refine wpList_ldS (n := 4) (us := mC m ad cap) A_rmach kR wU wU (by assumption) wU wU ?_)
    refine (HN.out _).mono ?_
    rintro e w3 ⟨rfl, b3⟩
    have hS3 := hSr.mono b3
    have q3 := (hS3.blk 0 rfl).1
    by_cases hkK : k = K
    ·subst hkK
     have hne : ((k : Int) != s) = true := by simpa using HO.out.2.2.1
     have CPk := fun w => HP.out k w (by omega) hkn
     rw [HO.out.2.2.2] at CPk
     have HPk := hid CPk
     clear CPk
     go_wp2_with (with_reducible refine wpList_ldS (n := 4) (us := mC m ad cap) A_rmach kR wU wU (by assumption) wU wU ?_)
     refine (HPk.out _).mono ?_
     rintro e w4 ⟨rfl, b4⟩
     have hS4 := hS3.mono b4
     go_wp2_with fail
     go_ret
     exact ⟨rfl, hS4.b⟩
    ·by_cases hks : (k : Int) = s
     ·have hne : ((k : Int) != s) = false := by simpa using hks
      have hkK2 : k < K := by omega
      clear hks
      go_wp2_with fail
      exact ⟨⟨k + 1, by omega, by go_num, hS3⟩, by simp [intOf]; omega⟩
     ·have hne : ((k : Int) != s) = true := by simpa using hks
      have hkK2 : k < K := by omega
      have CPk := fun w => HP.out k w (by omega) hkn
      obtain ⟨z, hz⟩ : ∃ z, z = placeM m k := ⟨_, rfl⟩
      have hzP : (z == P) = false := by
       have : z ≠ P := fun e => hkK (by have := HU.out k (by omega) (by omega) hks (hz ▸ e); omega)
       simpa using this
      rw [← hz] at CPk
      have HPk := hid CPk
      clear CPk hks hz
      go_wp2_with (with_reducible refine wpList_ldS (n := 4) (us := mC m ad cap) A_rmach kR wU wU (by assumption) wU wU ?_)
      refine (HPk.out _).mono ?_
      rintro e w4 ⟨rfl, b4⟩
      have hS4 := hS3.mono b4
      go_wp2_with fail
      exact ⟨⟨k + 1, by omega, by go_num, hS4⟩, by simp [intOf]; omega⟩
theorem rOver_any (m : MacV) (ad : Option Addr) (cap : Nat) (s : Int) (w : World) (hR : Ints w ad cap m.sw) (hg0 : 1 ≤ m.gears) (hg : m.gears ≤ 16) (h0 : 0 ≤ s) (h1 : s < 4 * m.gears) :
  Calls Tryz.prog 94 #[mV m ad cap, .int .i64 s] w fun r w' => r = .returned (.int .i64 (overM m s)) ∧ Below w.heap.size w w' := by
 have hcap := hR.le
 have hmx := hR.max
 have hS := (SL.nil w).box (.cells (mC m ad cap) 25)
 have CO := fun w => rOther_any m ad cap s w hg0 hg h0 h1
 have CP := fun w => rPlace_any m ad cap s w hg h0 h1
 have CS := fun w (h : Ints w ad cap m.sw) => rSet_any m ad cap (placeM m s) w h
 rw [other_over]
 obtain ⟨O, hO⟩ : ∃ O, O = otherM m s := ⟨_, rfl⟩
 obtain ⟨P, hP⟩ : ∃ P, P = placeM m s := ⟨_, rfl⟩
 obtain ⟨b, hb⟩ : ∃ b, b = m.sw.contains P := ⟨_, rfl⟩
 rw [← hP, ← hb] at CS
 rw [← hO] at CO
 rw [← hP] at CP
 rw [← hO, ← hP, ← hb]
 have HO := hid CO; have HP := hid CP; have HS := hid CS
 clear CO CP CS hO hP hb
 by_cases h : 0 ≤ O
 ·cases b
  ·rw [decide_eq_true h, if_pos (by rfl)]
   have hOd : decide (0 ≤ O) = true := decide_eq_true h
   go_enter Tryz.func94, Tryz.ntmps94
   go_wp2_with fail
   refine (HO.out _).mono ?_
   rintro e w1 ⟨rfl, b1⟩
   have hS1 := hS.mono b1
   have q1 := (hS1.blk 0 rfl).1
   go_wp2_with fail
   refine wp_region_q kR kR ?_
   repeat (first | ((try simp only [hOd]); ((with_reducible refine wpB_loadS (n := 4) (us := mC m ad cap) A_rmach kR wU wU (by assumption) wU wU ?_); (try simp only [Act.put, pA, pB, pC]))) | ((refine wpB_call (.int .i64 P) wU (fun w' => ?_) (fun w' hw' => HP.out w') ?_); (focus (go_simp; done)); (try simp only [Act.put, pA, pB, pC])) | ((refine wpB_call (.bool false) wU (fun w' => ?_) (fun w' hw' => HS.out w' (hR.below (bnext hS1.b hw'))) ?_); (focus (go_simp; done)); (try simp only [Act.put, pA, pB, pC])) |  ((with_reducible refine wpB_load (by first | exact F_int | exact F_u64s) wU wU (by assumption) wU ?_); (try simp only [Act.put, pA, pB, pC])) | ((refine wpQ_oneG ?_ wU (fun w' => ?_) ?_); rotate_left; (go_simp; rfl); (try simp only [Act.put, pA, pB, pC])))
   refine wpQuiet_nil ?_
   intro w2 hb2
   go_wp2_with fail
   go_ret
   exact ⟨rfl, bnext hS1.b hb2⟩
  ·rw [decide_eq_true h, if_neg (by decide)]
   have hOd : decide (0 ≤ O) = true := decide_eq_true h
   go_enter Tryz.func94, Tryz.ntmps94
   go_wp2_with fail
   refine (HO.out _).mono ?_
   rintro e w1 ⟨rfl, b1⟩
   have hS1 := hS.mono b1
   have q1 := (hS1.blk 0 rfl).1
   go_wp2_with fail
   refine wp_region_q kR kR ?_
   repeat (first | ((try simp only [hOd]); ((with_reducible refine wpB_loadS (n := 4) (us := mC m ad cap) A_rmach kR wU wU (by assumption) wU wU ?_); (try simp only [Act.put, pA, pB, pC]))) | ((refine wpB_call (.int .i64 P) wU (fun w' => ?_) (fun w' hw' => HP.out w') ?_); (focus (go_simp; done)); (try simp only [Act.put, pA, pB, pC])) | ((refine wpB_call (.bool true) wU (fun w' => ?_) (fun w' hw' => HS.out w' (hR.below (bnext hS1.b hw'))) ?_); (focus (go_simp; done)); (try simp only [Act.put, pA, pB, pC])) |  ((with_reducible refine wpB_load (by first | exact F_int | exact F_u64s) wU wU (by assumption) wU ?_); (try simp only [Act.put, pA, pB, pC])) | ((refine wpQ_oneG ?_ wU (fun w' => ?_) ?_); rotate_left; (go_simp; rfl); (try simp only [Act.put, pA, pB, pC])))
   refine wpQuiet_nil ?_
   intro w2 hb2
   go_wp2_with fail
   go_ret
   exact ⟨rfl, bnext hS1.b hb2⟩
 ·rw [decide_eq_false h, if_neg (by simp)]
  have hOd : decide (0 ≤ O) = false := decide_eq_false h
  go_enter Tryz.func94, Tryz.ntmps94
  go_wp2_with fail
  refine (HO.out _).mono ?_
  rintro e w1 ⟨rfl, b1⟩
  have hS1 := hS.mono b1
  have q1 := (hS1.blk 0 rfl).1
  go_wp2_with fail
  refine wp_region_q kR kR ?_
  repeat (first | ((try simp only [hOd]); ((with_reducible refine wpQ_skip wU ?_); (try simp only [Act.put, pA, pB, pC]))) |  ((with_reducible refine wpB_load (by first | exact F_int | exact F_u64s) wU wU (by assumption) wU ?_); (try simp only [Act.put, pA, pB, pC])) | ((refine wpQ_oneG ?_ wU (fun w' => ?_) ?_); rotate_left; (go_simp; rfl); (try simp only [Act.put, pA, pB, pC])))
  refine wpQuiet_nil ?_
  intro w2 hb2
  go_wp2_with fail
  go_ret
  exact ⟨rfl, bnext hS1.b hb2⟩
end Go.Proofs.YtoebgfgihfjnnaaGreatDoor
