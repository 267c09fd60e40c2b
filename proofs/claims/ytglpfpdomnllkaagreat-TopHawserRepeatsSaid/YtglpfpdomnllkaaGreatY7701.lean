/- Contracts and plain facts that the claim uses (MemA TyA PrA SlA Lib1 RE McA Rp1 CyA RG EnP GsP BrB NfP NfQ MaQ MbP NfT MaG MaJ TuP RmP MtP QrT QrV WvP). Conditions: as each one states. -/
import Derived.WalkKit
import Derived.WalkSpells
import Derived.Maps.AppendAt
import Derived.Deep.Quiet
import Derived.Test.YtglpfpdomnllkaaGreatProg
import Derived.Maps.Own
import Derived.Maps.OwnSet
import Derived.Maps.Views
import Derived.WalkLawsBesides
import Derived.Laws.EntriesVeiled
import Derived.Deep.QuietTactic
import Derived.BigQuiet
import Derived.Deep.RegionHeld3
import Derived.Deep.AppendLies
import Derived.Deep.RegionHeldLaw
import Derived.Deep.RegionLaw
import Derived.RangeFuncNested
import Derived.RangeFuncBound
import Derived.RangeFuncCalls
import Derived.RangeFuncLeaves
import Derived.RangeFuncFrom
import Derived.Shelf.Abstract
import Derived.Shelf.RegionOpen
import Derived.OwnWalkIn
import Derived.TacticsInMore
import Derived.LoopNIn
import Derived.LoopIn
import Derived.Shelf.Strings.Trim
import Derived.Shelf.Strings.SlTrimAscii
import Derived.Shelf.Strings.Repeat
import Derived.Shelf.Strings.OnBuilder
import Derived.Shelf.Strconv.Itoa1
import Derived.Shelf.Strconv.Itoa3
import Derived.Shelf.LaysM
import Derived.Ground.Names2Prog
import Derived.Lib.OthersKept
import Derived.Laws.CopyOwn
import Derived.IntWalk
import Derived.Sort.LoopGhostIn
import Derived.StillTail
import Derived.Laws.Tables
import Derived.BigRegion
import Derived.ChangeAlike
import Derived.Shelf.Bits.Mul64
import Derived.Lib.ItoaLen
import Derived.Lib.ItoaMem
import Derived.Maps.RangeWalk
import Derived.Maps.Ext
import Derived.Sort.QuietThIn
import Derived.Deep.LoopGhost
import Derived.Test.YtglpfpdomnllkaaGreatXz01
import Derived.Test.YtglpfpdomnllkaaGreatXz02
import Derived.Test.YtglpfpdomnllkaaGreatXz03
import Derived.Test.YtglpfpdomnllkaaGreatXz04
import Derived.Test.YtglpfpdomnllkaaGreatXz05
import Derived.Test.YtglpfpdomnllkaaGreatXz06
import Derived.Test.YtglpfpdomnllkaaGreatXz07
import Derived.Test.YtglpfpdomnllkaaGreatXz08
import Derived.Test.YtglpfpdomnllkaaGreatXz09
import Derived.Test.YtglpfpdomnllkaaGreatXz10
import Derived.Test.YtglpfpdomnllkaaGreatXz11
import Derived.Test.YtglpfpdomnllkaaGreatXz12
set_option linter.all false

namespace Go.Proofs.YtglpfpdomnllkaaGreat
open Go.RowKit
section
variable {α : Type} {c : α → Value} {sz : Nat} {w w' : World} {a : Option Addr} {cap : Nat} {l : List α}
end

section
variable {P : Program} {ops : Array Oper} {rest : List Oper} {a : Act} {Q : Exit → Act → World → Prop} {α : Type} {c : α → Value} {sz bytes : Nat} {t e : TypeId} {z : Value} {ad : Option Addr} {cap : Nat} {l : List α} {k : Int}
 {d1 d2 : Tmp} {ty1 ty2 : TypeId} {p1 p2 : String} {s x : Operand} {af1 af2 : Array Edge}

end
end Go.Proofs.YtglpfpdomnllkaaGreat

namespace Go.Proofs.YtglpfpdomnllkaaGreat
open Go.RowKit

section
variable {P : Program} {α : Type} {c : α → Value} {sz bytes B : Nat} {t e : TypeId} {z v : Value} {w w' : World} {l : List α}

theorem below_own {W : World} (h : Below W.heap.size W w) (hg : w.grownBy w' v.ownBlock) (ho : Own c sz B e w v l) (hB : W.heap.size ≤ B) : Below W.heap.size W w' :=
 h.grown hg h.size (fun k hk => Nat.le_trans hB (ho.lt k hk).1)
theorem run_bounds {n cap i j : Nat} {lo hi : Option Value} (hlo : lo = some (.int .i64 i) ∨ lo = none ∧ i = 0) (hhi : hi = some (.int .i64 j) ∨ hi = none ∧ j = n) (hij : i ≤ j) (hj : j ≤ cap) :
   (Instr.sliceBounds true n cap lo hi none).run P w = .ok (i, j, cap) w := by
 have q0 : (0 : Int) ≤ (i : Int) := by omega
 have q1 : (0 : Int) ≤ (j : Int) := by omega
 have b1 : ∀ m : Nat, (m : Int) ≤ j ∨ True := fun _ => .inr trivial
 have r1 : ∀ c, (Instr.sliceBound (.int .i64 i) j c).run P w = .ok i w := fun c => by rw [run_sliceBound _ _ _ _ _ q0 (by omega)]; simp
 have r2 : ∀ c, (Instr.sliceBound (.int .i64 j) cap c).run P w = .ok j w := fun c => by rw [run_sliceBound _ _ _ _ _ q1 (by omega)]; simp
 rcases hlo with rfl | ⟨rfl, rfl⟩ <;> rcases hhi with rfl | ⟨rfl, rfl⟩ <;> simp [Instr.sliceBounds, r1, r2]

end
end Go.Proofs.YtglpfpdomnllkaaGreat

namespace Go.Proofs.YtglpfpdomnllkaaGreat
open Go.RowKit

end Go.Proofs.YtglpfpdomnllkaaGreat

namespace Go.Proofs.YtglpfpdomnllkaaGreat
open Go.RowKit
end Go.Proofs.YtglpfpdomnllkaaGreat

namespace Go.Proofs.YtglpfpdomnllkaaGreat
open Go.RowKit
set_option maxRecDepth 100000

theorem E_intsZ : ETy Tryz.prog 22 3 (cInt 0) 1 8 := E_ints
end Go.Proofs.YtglpfpdomnllkaaGreat

namespace Go.Proofs.YtglpfpdomnllkaaGreat
open Go.RowKit
set_option maxHeartbeats 1000000
set_option maxRecDepth 100000

/-- two neighbours exchanged. -/
def swapL (st : List Int) (k : Int) : List Int := (st.set (k - 1).toNat (atD 0 st k)).set k.toNat (atD 0 st (k - 1))
end Go.Proofs.YtglpfpdomnllkaaGreat

namespace Go.Proofs.YtglpfpdomnllkaaGreat
open Go.RowKit
set_option maxHeartbeats 1000000
set_option maxRecDepth 100000

theorem swapL_len (st : List Int) (k : Int) : (swapL st k).length = st.length := by simp [swapL]
end Go.Proofs.YtglpfpdomnllkaaGreat

namespace Go.Proofs.YtglpfpdomnllkaaGreat
open Go.RowKit
set_option maxHeartbeats 1000000
set_option maxRecDepth 100000

end Go.Proofs.YtglpfpdomnllkaaGreat

namespace Go.Proofs.YtglpfpdomnllkaaGreat
open Go.RowKit
set_option maxRecDepth 100000

section
variable {B : Nat} {w0 w w' : World} {L K : List Pc}
end

section
variable {B : Nat} {w0 w w' : World} {L : List Pc} {α : Type} {c : α → Value} {sz : Nat} {e : TypeId} {v : Value} {l : List α}
end

section
variable {P : Program} {ops : Array Oper} {rest : List Oper} {a : Act} {Q : Exit → Act → World → Prop} {α : Type} {c : α → Value} {sz bytes B : Nat} {t e : TypeId} {z v : Value} {w0 w : World} {L : List Pc} {l : List α}
theorem wpList_appL {d : Option Tmp} {ty : TypeId} {p : String} {s x : Operand} {af : Array Edge} {ad : Option Addr} {n cap : Nat} {ys : List α} (i : Nat) (E : ETy P t e z sz bytes)
   (hs : a.eval s = v) (hx : a.eval x = .slice ad n cap) (hS : SL B w0 w L) (hi : L[i]? = some (pOwn c sz e v l)) (hR : Reps c sz w ad cap ys) (hn : n = ys.length) (h1 : ∀ x, ∀ u ∈ (c x).cells.toList, u.oneCell' = true)
   (hb : (l.length + ys.length) * bytes ≤ 140737488355328) (hm : l.length + ys.length ≤ 9223372036854775807)
   (hK : ∀ v' w', SL B w0 w' (L.set i (pOwn c sz e v' (l ++ ys))) → wpList P ops Q rest (a.put d v') w') :
   wpList P ops Q (⟨d, .call { callee := .builtin .append, args := #[s, x], argTypes := #[t, t] }, ty, p, af, none⟩ :: rest) a w := by
 subst hn
 obtain ⟨b, ⟨h2, h3⟩, h4, h5⟩ := hS.upd i hi
 refine wpList_app (l := l) (ys := ys) (ad := ad) (cap := cap) E hs hx h2 hR h1 hb (Nat.zero_le _) hm ?_
 intro v' w' ho hg hat
 refine hK v' w' (h5 w' _ v'.ownBlock (h3 ▸ hg) ⟨ho, rfl⟩ ?_)
 rcases hat with hat | hat
 ·exact .inl (hat.trans h3)
 ·exact .inr (fun k hk => by rw [hat] at hk; cases hk; exact Nat.le_refl _)
end
section
variable {ops : Array Oper} {rest : List Oper} {a : Act} {Q : Exit → Act → World → Prop} {d : Option Tmp} {ty : TypeId} {p : String} {m x y : Operand} {af : Array Edge} {b n B : Nat} {k : Int} {w0 w : World} {L : List Pc}
end
end Go.Proofs.YtglpfpdomnllkaaGreat

namespace Go.Proofs.YtglpfpdomnllkaaGreat
open Go.RowKit
set_option maxRecDepth 100000

section
variable {B : Nat} {w0 w w' : World} {L K : List Pc}
end

section
variable {α : Type} {c : α → Value} {sz : Nat} {e : TypeId} {v : Value} {l : List α} {B : Nat} {W0 w : World} {L : List Pc}
end
end Go.Proofs.YtglpfpdomnllkaaGreat

namespace Go.Proofs
open Go.Shelf
def Tryz.lays212_ren : Go.Shelf.Ren := ⟨fun | 212 => 127 | 263 => 165 | 264 => 166 | n => n, fun | 46 => 154 | 51 => 177 | 146 => 178 | 53 => 180 | 148 => 181 | n => n, fun | n => n⟩
theorem Tryz.lays212 : Go.Proofs.Lays.n212 Tryz.prog Tryz.lays212_ren := {
 mixed := by kernel_rfl
 f212 := Tryz.func127.trans (congrArg some (by kernel_rfl))
 f263 := Tryz.func165.trans (congrArg some (by kernel_rfl))
 f264 := Tryz.func166.trans (congrArg some (by kernel_rfl))
 t46 := Tryz.underlying154
 a46 := Tryz.isAgg154
 z46 := Tryz.sizeOf154
 v46 := Tryz.zeroValue154
 t51 := Tryz.underlying177
 a51 := Tryz.isAgg177
 z51 := Tryz.sizeOf177
 v51 := Tryz.zeroValue177
 t53 := Tryz.underlying180
 a53 := Tryz.isAgg180
 z53 := Tryz.sizeOf180
 v53 := Tryz.zeroValue180
 t146 := Tryz.underlying178
 a146 := Tryz.isAgg178
 z146 := Tryz.sizeOf178
 v146 := Tryz.zeroValue178
 t148 := Tryz.underlying181
 a148 := Tryz.isAgg181
 z148 := Tryz.sizeOf181
 v148 := Tryz.zeroValue181 }
open Go.RowKit Go.Lib in
/-- math/bits.Mul: "Mul returns the full-width product of x and y": on a machine of 64 bits: Mul64's. (LAID: no walk: one application.) -/
theorem Tryz.bits_Mul (x y : Nat) (hx : x < 18446744073709551616) (hy : y < 18446744073709551616) (w : World) :
  Calls Tryz.prog 127 #[.int .u64 x, .int .u64 y] w fun e w' => e = .returned (.tuple #[.int .u64 ((x * y / 18446744073709551616 : Nat) : Int), .int .u64 ((x * y % 18446744073709551616 : Nat) : Int)]) ∧ w' = w := Any.bits_Mul Tryz.lays212 x y hx hy w

end Go.Proofs

namespace Go.Proofs.YtglpfpdomnllkaaGreat
open Go.RowKit
set_option maxHeartbeats 1000000
set_option maxRecDepth 100000

theorem wordE_any {n : Int} {l : List Int} (h : strandsE n = 0) (h2 : l.length ≤ 200) : wordE n l = if l.any (outB n) then 3 else 0 := by
 unfold wordE
 rw [if_neg (fun hh => hh h), if_neg (by omega)]
 have key : (0 ≤ idxGo n l 0 l.length) ↔ l.any (outB n) = true := by
  rw [idxGo_neg, List.any_eq_true]
  constructor
  ·rintro ⟨j, _, hj, ho⟩
   exact ⟨atD 0 l j, by simp [atD, show j < l.length by omega], ho⟩
  ·rintro ⟨x, hx, ho⟩
   obtain ⟨j, hj, rfl⟩ := List.getElem_of_mem hx
   exact ⟨j, by omega, by omega, by simpa [atD, hj] using ho⟩
 by_cases c : l.any (outB n) = true
 ·rw [if_pos (key.2 c), if_pos c]
 ·rw [if_neg (fun h => c (key.1 h)), if_neg c]
end Go.Proofs.YtglpfpdomnllkaaGreat

namespace Go.Proofs.YtglpfpdomnllkaaGreat
open Go.RowKit
set_option maxHeartbeats 400000
set_option maxRecDepth 100000

end Go.Proofs.YtglpfpdomnllkaaGreat

namespace Go.Proofs.YtglpfpdomnllkaaGreat
open Go.RowKit

theorem nodup_le (n : Nat) (l : List Int) (hn : l.Nodup) (hr : ∀ x ∈ l, 0 ≤ x ∧ x < n) : l.length ≤ n := by
 rcases Nat.lt_or_ge n l.length with h | h
 ·obtain ⟨a, b, h1, h2, h3⟩ := php n (fun k => (atD 0 l k).toNat) (fun k hk => by
   have := hr (atD 0 l k) (by simp [atD, show k < l.length by omega])
   omega)
  have ha := hr (atD 0 l a) (by simp [atD, show a < l.length by omega])
  have hb := hr (atD 0 l b) (by simp [atD, show b < l.length by omega])
  exact absurd (by omega) (nodup_ne hn h1 (by omega))
 ·exact h

section
variable {p : List Int} (hp : IsP p)
include hp
end

end Go.Proofs.YtglpfpdomnllkaaGreat

namespace Go.Proofs.YtglpfpdomnllkaaGreat
open Go.RowKit
set_option maxHeartbeats 1000000
set_option maxRecDepth 100000

theorem mul_any (x y : Nat) (h : x * y < 18446744073709551616) (hx : x < 18446744073709551616) (hy : y < 18446744073709551616) (w : World) :
  Calls Tryz.prog 127 #[.int .u64 x, .int .u64 y] w fun e w' => e = .returned (.tuple #[.int .u64 0, .int .u64 ((x * y : Nat) : Int)]) ∧ w = w' := by
 refine (Tryz.bits_Mul x y hx hy w).mono ?_
 rintro e w' ⟨rfl, rfl⟩
 rw [Nat.div_eq_of_lt h, Nat.mod_eq_of_lt h]
 exact ⟨rfl, rfl⟩

theorem cyc_add (l : List Int) (m k : Nat) (h : m % l.length = 0) : cyc l (m + k) = cyc l m ++ cyc l k := by
 unfold cyc
 rw [List.range_add, List.map_append, List.map_map]
 congr 1
 refine List.map_congr_left fun j _ => ?_
 show l.getD ((m + j) % l.length) 0 = _
 rw [Nat.add_mod, h, Nat.zero_add, Nat.mod_mod]
theorem cyc_once (l : List Int) : cyc l l.length = l := by
 refine List.ext_getElem (by simp [cyc]) fun j h1 h2 => ?_
 simp [cyc, Nat.mod_eq_of_lt h2, h2]

theorem splice_laid {l : List Int} {cur : List Value} {N m k : Nat} (hl : cur.length = N) (ht : cur.take m = (cyc l m).map cInt) (hm : m + k ≤ N) (hd : m % l.length = 0) (cs : List Value) (hc : cs = (cyc l k).map cInt) :
  (splice cur m cs).length = N ∧ (splice cur m cs).take (m + k) = (cyc l (m + k)).map cInt := by
 subst hc
 have h1 : ((cyc l k).map cInt).length = k := by simp [cyc]
 refine ⟨by rw [length_splice _ _ _ (by rw [h1]; omega), hl], ?_⟩
 unfold splice
 rw [cyc_add l m k hd, List.map_append, ht, ← List.append_assoc]
 have h2 : ((cyc l m).map cInt ++ (cyc l k).map cInt).length = m + k := by simp [cyc]
 rw [List.take_append_of_le_length (by omega), List.take_of_length_le (by omega)]
theorem own_laid {w : World} {g N : Nat} {B : Nat} {l L : List Int} (h : OwnI B w (.slice (some ⟨g, 0, none⟩) N N) L) (hL : L.length = N) : Laid w g N 0 l := by
 rcases h.2.2 with ⟨h, _⟩ | ⟨g', cap, cur, hv, _, hg, _, _, hs, _⟩
 ·cases h
 ·cases hv
  exact ⟨cur.toList, by simpa using hg, by simpa using hs, by simp [cyc], Nat.zero_le _⟩
theorem wpList_copyL {ops : Array Oper} {rest : List Oper} {a : Act} {Q : Exit → Act → World → Prop} {d : Option Tmp} {ty : TypeId} {p : String} {x y : Operand} {af : Array Edge} {w w0 : World} {B g N m : Nat} {l : List Int} {dp sp : Option Addr} {dLen dCap sLen sCap : Nat} (k : Nat)
  (hd : a.eval x = .slice dp dLen dCap) (hs : a.eval y = .slice sp sLen sCap) (hL : Laid w g N m l) (hk : k = Nat.min sLen dLen) (hm : m + k ≤ N) (hmod : m % l.length = 0) (hdp : dp = some ⟨g, m, none⟩)
  (hsp : ∃ ad, sp = some ad ∧ ∀ j v, ((cyc l k).map cInt)[j]? = some v → w.cell? (ad.add j) = some v) (hb : Below B w0 w) (hBg : B ≤ g)
  (hK : ∀ w', Laid w' g N (m + k) l → Below B w0 w' → wpList Tryz.prog ops Q rest (a.put d (.int .i64 k)) w') :
  wpList Tryz.prog ops Q (⟨d, .call { callee := .builtin .copy, args := #[x, y], argTypes := #[22, 22] }, ty, p, af, none⟩ :: rest) a w := by
 obtain ⟨cur, h1, h2, h3, h4⟩ := hL
 have hlen : ((cyc l k).map cInt).length = k := by simp [cyc]
 refine wpList_copy_splice rfl x y 22 22 rfl 3 Tryz.underlying22 kR dp sp dLen dCap sLen sCap hd hs g m cur 3 h1 ((cyc l k).map cInt) (by rw [hlen, hk]) (fun _ => ⟨hdp, hsp⟩) (by rw [hlen, h2]; omega)
  (fun v hv => by obtain ⟨z, _, rfl⟩ := List.mem_map.1 hv; rfl) B w0 hb hBg (fun w' hw hbw => ?_)
 obtain ⟨s1, s2⟩ := splice_laid h2 h3 hm hmod _ rfl
 have := hK w' ⟨_, hw.out, s1, s2, hm⟩ hbw
 rw [hlen]
 exact this

theorem step_copyL {ops : Array Oper} {a : Act} {o : Oper} {K : Act → World → Prop} {Q : Exit → Act → World → Prop} {E : Prop} {w w0 : World} {B g N m : Nat} {l : List Int} (hgd : o.guard = none) (x y : Operand) (ho : o.op = .call { callee := .builtin .copy, args := #[x, y], argTypes := #[22, 22] })
  (dp sp : Option Addr) (dLen dCap sLen sCap : Nat) (k : Nat) (hd : a.eval x = .slice dp dLen dCap) (hs : a.eval y = .slice sp sLen sCap) (hL : Laid w g N m l) (hk : k = Nat.min sLen dLen) (hm : m + k ≤ N) (hmod : m % l.length = 0) (hdp : dp = some ⟨g, m, none⟩)
  (hsp : ∃ ad, sp = some ad ∧ ∀ j v, ((cyc l k).map cInt)[j]? = some v → w.cell? (ad.add j) = some v) (hb : Below B w0 w) (hBg : B ≤ g)
  (hK : ∀ w', Laid w' g N (m + k) l → Below B w0 w' → K (a.put o.dst (.int .i64 k)) w') :
  if Region.wanted o (yielded ops a.tmps) = true then Oper.wp Tryz.prog o a w K Q else E := by
 obtain ⟨cur, h1, h2, h3, h4⟩ := hL
 have hlen : ((cyc l k).map cInt).length = k := by simp [cyc]
 refine step_copy_splice hgd x y 22 22 ho 3 Tryz.underlying22 kR dp sp dLen dCap sLen sCap hd hs g m cur 3 h1 ((cyc l k).map cInt) (by rw [hlen, hk]) (fun _ => ⟨hdp, hsp⟩) (by rw [hlen, h2]; omega)
  (fun v hv => by obtain ⟨z, _, rfl⟩ := List.mem_map.1 hv; rfl) B w0 hb hBg (fun w' hw hbw => ?_)
 obtain ⟨s1, s2⟩ := splice_laid h2 h3 hm hmod _ rfl
 have := hK w' ⟨_, hw.out, s1, s2, hm⟩ hbw
 rw [hlen]
 exact this

theorem Repeat_any (a : Option Addr) (cap c : Nat) (l : List Int) (w : World) (hS : Ints w a cap l) (h0 : 0 < l.length) (hl : l.length ≤ 1000) (hc0 : 0 < c) (hc : c ≤ 1000) :
  Calls Tryz.prog 83 #[.slice a l.length cap, .int .i64 c] w fun r w' => ∃ v, r = .returned v ∧ OwnI w.heap.size w' v (cyc l (l.length * c)) ∧ Below w.heap.size w w' := by
 have hcap := hS.le
 have hm := hS.max
 have hN : l.length * c ≤ 1000000 := by have := Nat.mul_le_mul hl hc; omega
 have hN1 : l.length ≤ l.length * c := Nat.le_mul_of_pos_right _ hc0
 obtain ⟨N, hNd⟩ : ∃ N, N = l.length * c := ⟨_, rfl⟩
 have hmul := fun w => mul_any l.length c (by omega) (by omega) (by omega) w
 rw [← hNd] at hN hN1 hmul ⊢
 have HM := hid hmul; have HN := hid hNd
 clear hmul hNd
 go_enter Tryz.func83, Tryz.ntmps83
 obtain ⟨ba, oa, rfl, hcs⟩ := hS.cells (by decide) 0 0 h0
 have hsrc : ∀ W, Below w.heap.size w W → ∃ ad, some (⟨ba, oa, none⟩ : Addr) = some ad ∧ ∀ j v, ((cyc l l.length).map cInt)[j]? = some v → W.cell? (ad.add j) = some v := fun W hW => by
  refine ⟨_, rfl, fun j v hv => ?_⟩
  rw [cyc_once] at hv
  have hj : j < l.length := by have := (List.getElem?_eq_some_iff.1 hv).1; simpa using this
  obtain ⟨b', o', e', hc'⟩ := (hS.below hW).cells (by decide) 0 j hj
  cases e'
  rw [Addr.add_z]
  have := hc' 0 v (by simpa [cInt, Value.cells, hj] using hv)
  simpa using this
 have HSRC := hid hsrc; clear hsrc hcs
 go_wp2_with (first | (go_at_call 127; refine (HM.out _).mono ?_; rintro e w' ⟨rfl, rfl⟩) | (((with_reducible refine wpList_make1 (c := cInt) (B := w.heap.size) (N) (0) E_intsZ cInt1 wU wU (by omega) (by omega) (by first | omega | (simp; done) | (simp; omega)) ?_); intro w1 ho1 hg1); have b1 := (Below.refl w.heap.size w).grown hg1 (Nat.le_refl _) (fun _ h => by cases h); have hL1 := own_laid (l := l) ho1 (by simp)) | ((with_reducible refine wpList_copyL l.length wU wU hL1 (by simp [Nat.min_def]; omega) (by omega) (by simp) rfl (HSRC.out _ b1) b1 (Nat.le_refl _) ?_); intro w2 hL2 hb2; simp only [Nat.zero_add] at hL2))
 go_loopw [8] (fun i wr => ∃ m : Nat, m ≤ N ∧ i = .int .i64 m ∧ Laid wr w.heap.size N m l ∧ 0 < m ∧ (m < N → m % l.length = 0) ∧ Below w.heap.size w wr) (fun i _ => N - (intOf i).toNat)
 case atStart => exact ⟨l.length, hN1, rfl, hL2, h0, fun _ => by simp, hb2⟩
 case round =>
  obtain ⟨m, hmN, rfl, hLm, hm0, hmod, hbr⟩ := hrel
  by_cases hlt : m < N
  ·have hmo := hid (hmod hlt)
   clear hmod
   obtain ⟨k, hk⟩ : ∃ k, k = Nat.min m (N - m) := ⟨_, rfl⟩
   have hk1 : k ≤ m := by rw [hk]; exact Nat.min_le_left _ _
   have hk2 : m + k ≤ N := by have : k ≤ N - m := by rw [hk]; exact Nat.min_le_right m (N - m)
                              omega
   have hk3 : 0 < k := by show 0 < k; rw [hk]; show 0 < min m (N - m); omega
   have hk4 : m + k < N → k = m := fun h => by have : k = min m (N - m) := hk; omega
   have HK := hid hk; have HK4 := hid hk4
   clear hk hk4
   have hsum : IntKind.i64.wrap ((m : Int) + k) = (m : Int) + k := IntWalk.i64_in _ (by omega)
   go_wp2_with fail
   have hLd : Laid wr.drew w.heap.size N m l := hLm
   have hcd : ∃ ad, some (⟨w.heap.size, 0, none⟩ : Addr) = some ad ∧ ∀ j v, ((cyc l k).map cInt)[j]? = some v → wr.drew.cell? (ad.add j) = some v := ⟨_, rfl, fun j v hv => hLd.cell j k hk1 v hv⟩
   have hbd := hbr.drew
   have hNm : ¬ N = m := by omega
   go_region_law (refine step_copyL (by rfl) _ _ (by rfl) (some ⟨w.heap.size, m, none⟩) (some ⟨w.heap.size, 0, none⟩) (N - m) (N - m) m N k (by simp [Act.eval, Act.put]) (by simp [Act.eval, Act.put]) hLd HK.out hk2 hmo.out rfl hcd hbd (Nat.le_refl _) ?_; intro w3 hL3 hb3)
   clear hsum
   have hfin : m + k < N → (m + k) % l.length = 0 := fun h => by rw [HK4.out h, ← Nat.two_mul, Nat.mul_mod, hmo.out, Nat.mul_zero, Nat.zero_mod]
   have hmo3 : N - ((m : Int) + k).toNat < N - (m : Int).toNat := by omega
   go_roundw
   case rel =>
    (repeat apply Exists.intro)
    exact ⟨⟨m + k, hk2, by go_num, hL3, by omega, hfin, hb3⟩, rfl⟩
   case measure => exact hmo3
  ·have : m = N := by omega
   subst this
   clear hmod
   go_wp2_with fail
   go_ret
   exact ⟨_, rfl, hLm.own (Nat.le_refl _) (by omega), hbr⟩
end Go.Proofs.YtglpfpdomnllkaaGreat

namespace Go.Proofs.YtglpfpdomnllkaaGreat
open Go.RowKit Go.Shelf
set_option maxHeartbeats 2000000
set_option maxRecDepth 100000

theorem Reps.keep {α : Type} {c : α → Value} {sz : Nat} {w w' : World} {a : Option Addr} {cap : Nat} {l : List α} (h : Reps c sz w a cap l) (hk : ∀ b, a = some b → KeepAt b.block w w') : Reps c sz w' a cap l := by
 obtain ⟨h1, h2, h3, h4, h5⟩ := h
 refine ⟨h1, h2, h3, h4, fun j u hj => ?_⟩
 obtain ⟨b, o, e, hc⟩ := h5 j u hj
 exact ⟨b, o, e, (hk _ e).cell.trans hc⟩
section
variable {p : List Int} (hp : IsP p) {i : Int} (h0 : 0 ≤ i) (h1 : i < p.length)
end

end Go.Proofs.YtglpfpdomnllkaaGreat

namespace Go.Proofs.YtglpfpdomnllkaaGreat
open Go.RowKit Go.Shelf
set_option maxHeartbeats 2000000
set_option maxRecDepth 100000

end Go.Proofs.YtglpfpdomnllkaaGreat

namespace Go.Proofs.YtglpfpdomnllkaaGreat
open Go.RowKit
set_option maxHeartbeats 1000000
set_option maxRecDepth 100000

theorem rIdentity_any (n : Nat) (w : World) (hn : n ≤ 100000) :
  Calls Tryz.prog 36 #[.int .i64 n] w fun r w' => ∃ v, r = .returned v ∧ OwnI w.heap.size w' v (idL n) ∧ Below w.heap.size w w' := by
 go_enter Tryz.func36, Tryz.ntmps36
 go_wp2
 go_loopw [3, 4] (fun v i wr => ∃ k : Nat, k ≤ n ∧ i = .int .i64 k ∧ OwnI w.heap.size wr v (idL k) ∧ Below w.heap.size w wr) (fun _ i _ => n - (intOf i).toNat)
 case atStart => exact ⟨0, by omega, rfl, own_nil cIntS, Below.refl _ _⟩
 case round =>
  obtain ⟨k, hk, rfl, hO, hbr⟩ := hrel
  have hle : (idL k).length ≤ 100000 := by rw [idL_len]; omega
  have hbs := hbr.size
  by_cases hlt : k < n
  ·have hs := idL_succ k
   have HS := hid hs; clear hs
   go_wp2_with ((with_reducible refine wpList_app (l := (idL k)) (ys := [(k : Int)]) E_ints wU wU ((hO).alloc _) (reps_new1 cIntS ((k : Int)) _ _ (by simp) rfl) cIntO (by simp; omega) (by first | omega | (simp; omega)) (by simp; omega) ?_); intro v3 w3 ho3 hg3 hat3)
   exact ⟨⟨k + 1, by omega, by go_num, by rw [HS.out]; exact ho3, below_own (bal hbr (.cells #[.int .i64 (k : Int)] 3)) hg3 (hO.alloc _) (Nat.le_refl _)⟩, by simp [intOf]; omega⟩
  ·have : k = n := by omega
   subst this
   go_wp2_with fail
   go_ret
   exact ⟨_, rfl, hO, hbr⟩

end Go.Proofs.YtglpfpdomnllkaaGreat

namespace Go.Proofs.YtglpfpdomnllkaaGreat
open Go.RowKit
set_option maxHeartbeats 1000000
set_option maxRecDepth 100000

def row5 : List Int → List Int → List Int
 | st, [] => st
 | st, x :: r => row5 (swapL st (absI x)) r
theorem row5_len : ∀ (l st : List Int), (row5 st l).length = st.length
 | [], st => rfl
 | x :: r, st => by rw [row5, row5_len r, swapL_len]
theorem swapL_at {st : List Int} {k j : Int} (h1 : 1 ≤ k) (h2 : k < st.length) (hj : 0 ≤ j) : atD 0 (swapL st k) j = atD 0 st (sw (k - 1) k j) := by
 unfold swapL sw
 rw [atD_set (by omega) (by simp; omega) hj, atD_set (by omega) (by omega) hj]
 by_cases a : j = k
 ·subst a; rw [if_pos rfl, if_neg (by omega), if_pos rfl]
 ·rw [if_neg a, if_neg a]
  by_cases b : j = k - 1
  ·rw [if_pos b, if_pos b]
  ·rw [if_neg b, if_neg b]
theorem swapL_isP {st : List Int} {k : Int} (h1 : 1 ≤ k) (h2 : k < st.length) (h : IsP st) : IsP (swapL st k) := by
 refine ⟨fun x x0 x1 => ?_, fun x y x0 x1 y0 y1 e => ?_⟩
 ·rw [swapL_len] at x1 ⊢
  rw [swapL_at h1 h2 x0]
  obtain ⟨a, b⟩ := sw_rng (f := k - 1) (t := k) (n := st.length) ⟨by omega, by omega⟩ ⟨by omega, h2⟩ ⟨x0, x1⟩
  exact h.rng _ a b
 ·rw [swapL_len] at x1 y1
  rw [swapL_at h1 h2 x0, swapL_at h1 h2 y0] at e
  obtain ⟨a, b⟩ := sw_rng (f := k - 1) (t := k) (n := st.length) ⟨by omega, by omega⟩ ⟨by omega, h2⟩ ⟨x0, x1⟩
  obtain ⟨c, d⟩ := sw_rng (f := k - 1) (t := k) (n := st.length) ⟨by omega, by omega⟩ ⟨by omega, h2⟩ ⟨y0, y1⟩
  have := congrArg (sw (k - 1) k) (h.inj _ _ a b c d e)
  rwa [sw_sw, sw_sw] at this
theorem row5_isP : ∀ (l st : List Int), IsP st → (∀ x ∈ l, 1 ≤ absI x ∧ absI x < st.length) → IsP (row5 st l)
 | [], st, h, _ => h
 | x :: r, st, h, hf => by
   obtain ⟨a, b⟩ := hf x (by simp)
   rw [row5]
   exact row5_isP r _ (swapL_isP a b h) (fun y hy => by rw [swapL_len]; exact hf y (by simp [hy]))
end Go.Proofs.YtglpfpdomnllkaaGreat

namespace Go.Proofs.YtglpfpdomnllkaaGreat
set_option maxRecDepth 100000
theorem absI_neg (x : Int) : absI (-x) = absI x := by unfold absI; split <;> split <;> omega
def permB (n : Nat) (w : List Int) : List Int := invL (row5 (idL n) w)
end Go.Proofs.YtglpfpdomnllkaaGreat

namespace Go.Proofs.YtglpfpdomnllkaaGreat
open Go.RowKit
set_option maxHeartbeats 4000000
set_option maxRecDepth 100000
theorem bneg_any (n : Int) (w : World) (h : -1000 ≤ n) (h2 : n ≤ 1000) :
  Calls Tryz.prog 75 #[.int .i64 n] w fun r w' => r = .returned (.int .i64 (-n)) ∧ w = w' := by
 have hw : IntKind.i64.wrap (-n) = -n := IntWalk.i64_in _ (by omega)
 go_enter Tryz.func75, Tryz.ntmps75
 go_wp2
 go_ret
 exact ⟨rfl, rfl⟩
def negW (l : List Int) : List Int := l.map fun x => -x
theorem bmapneg_any (al : Option Addr) (cl : Nat) (l : List Int) (w : World) (hL : Ints w al cl l) (hn : l.length ≤ 1000) (hf : ∀ x ∈ l, -1000 ≤ x ∧ x ≤ 1000) :
  Calls Tryz.prog 74 #[.slice al l.length cl, .func (.func 75) #[] #[]] w fun r w' => ∃ v, r = .returned v ∧ OwnI w.heap.size w' v (negW l) ∧ Below w.heap.size w w' := by
 have hcap := hL.le
 have hmx := hL.max
 have H : Hid (∀ x ∈ l, ∀ w', Calls Tryz.prog 75 #[.int .i64 x] w' fun r w'' => r = .returned (.int .i64 (-x)) ∧ w' = w'') := hid fun x hx w' => bneg_any x w' (hf x hx).1 (hf x hx).2
 have hS := (SL.nil w).nilS (α := Int) (e := 3) cIntS
 go_enter Tryz.func74, Tryz.ntmps74
 go_wp2_with fail
 go_loopw [10, 7, 5] (fun i _ v wr => ∃ k : Nat, k ≤ l.length ∧ i = .int .i64 k ∧ SL w.heap.size w wr [pOwn cInt 1 3 v (negW (l.take k))]) (fun i _ _ _ => l.length - (intOf i).toNat)
 case atStart => exact ⟨0, by omega, rfl, hS⟩
 case round =>
  clear hS
  obtain ⟨k, hk, rfl, hSr⟩ := hrel
  have hLr := hL.below hSr.b
  by_cases hlt : k < l.length
  ·have hmem := atD_mem hlt
   have ht : l.take (k + 1) = l.take k ++ [atD 0 l k] := by rw [List.take_succ_eq_append_getElem hlt]; simp [atD, hlt]
   have hlen : (negW (l.take k)).length ≤ 1048576 := by unfold negW; simp; omega
   obtain ⟨x, hx⟩ : ∃ x, x = atD 0 l k := ⟨_, rfl⟩
   rw [← hx] at hmem ht
   have HX := hid hx; have HT := hid ht
   clear hx ht
   go_wp2_with ((with_reducible refine wpList_idx _ 0 E_ints F_int cInt1 wU wU (hLr) oD oD (fun _ => wU) (fun _ => ?_)); rw [← HX.out])
   refine (H.out x hmem _).mono ?_
   rintro e w1 ⟨rfl, rfl⟩
   go_wp2_with ((with_reducible refine wpList_pushL (y := (-x)) 0 E_ints wU wU (hSr) wU cIntO ⟨rfl, rfl⟩ (by first | with_unfolding_all rfl | simp) wU (by first | omega | (simp; omega)) (by first | omega | (simp; omega)) ?_); intro v2 w2 hS2)
   exact ⟨⟨k + 1, by omega, by go_num, by rw [HT.out]; unfold negW at hS2 ⊢; rw [List.map_append]; exact hS2⟩, by simp [intOf]; omega⟩
  ·have hkk : k = l.length := by omega
   subst hkk
   rw [List.take_length] at hSr
   clear hlt
   go_wp2_with fail
   go_ret
   exact ⟨_, rfl, hSr.own 0 rfl, hSr.b⟩
theorem word_small {n : Int} {l : List Int} (h : wordE n l = 0) : ∀ x ∈ l, -1000 ≤ x ∧ x ≤ 1000 := fun x hx => by
 obtain ⟨h1, h2, _, h4⟩ := wordE_fits h
 have := h4 x hx
 omega
theorem blimited_any (a : Option Addr) (cap : Nat) (l : List Int) (w : World) (h : l.length ≤ 200) :
  Calls Tryz.prog 80 #[.slice a l.length cap] w fun r w' => r = .returned (.tuple #[.slice a l.length cap, .int .i64 0]) ∧ w = w' := by
 have d : decide (200 < (l.length : Int)) = false := decide_eq_false (by omega)
 go_enter Tryz.func80, Tryz.ntmps80
 go_wp2
 go_ret2
 exact ⟨rfl, rfl⟩
end Go.Proofs.YtglpfpdomnllkaaGreat

namespace Go.Proofs.YtglpfpdomnllkaaGreat
section
variable {S : Type} (G : Gar S)
variable {G}
theorem Star.pre (U : List S) {X Y : List S} (h : Star G X Y) : Star G (U ++ X) (U ++ Y) := by
 induction U with
 | nil => exact h
 | cons a U ih => exact ih.there a
theorem Pull.post {X Y : List S} (h : Pull G X Y) (Z : List S) : Pull G (X ++ Z) (Y ++ Z) := by
 induction h with
 | here a b X i h1 h2 h3 => exact .here a b (X ++ Z) i h1 h2 h3
 | there a _ ih => exact .there a ih
theorem Star.post {X Y : List S} (h : Star G X Y) (Z : List S) : Star G (X ++ Z) (Y ++ Z) := by
 induction h with
 | refl => exact .refl _
 | step p _ ih => exact .step (p.post Z) ih
theorem Star.ctx (U : List S) {X Y : List S} (h : Star G X Y) (Z : List S) : Star G (U ++ X ++ Z) (U ++ Y ++ Z) := (h.pre U).post Z
end
end Go.Proofs.YtglpfpdomnllkaaGreat

namespace Go.Proofs.YtglpfpdomnllkaaGreat
section
variable {S : Type} {T : GarT S}
theorem map_flfl {X : List S} (h : Vs T.toGar X) : (X.map T.fl).map T.fl = X := by
 rw [List.map_map]
 conv => rhs; rw [← List.map_id X]
 exact List.map_congr_left fun x hx => T.flfl (h x hx)
/-- a pair goes its way with a letter more at its end. -/
theorem lift_end {j : Nat} (hj : j < T.N) {X Z : List S} (h : Star T.toGar X Z) : ∀ x y, X = [x, y] → T.V x → T.V y → T.E y j = false → ∃ x' y', Z = [x', y'] ∧ T.V x' ∧ T.V y' ∧ T.E y' j = false ∧ Star T.toGar [x, T.bk y j] [x', T.bk y' j] := by
 induction h with
 | refl => intro x y e vx vy h; exact ⟨x, y, e, vx, vy, h, .refl _⟩
 | step p q ih =>
  intro x y e vx vy h
  subst e
  cases p with
  | here _ _ _ i h1 h2 h3 =>
   obtain ⟨m1, m2, m3⟩ := T.mid vy h1 hj h2 h
   obtain ⟨x', y', e', vx', vy', k1, k2⟩ := ih _ _ rfl (T.vbk vx h1) (T.vfr vy h1) m1
   refine ⟨x', y', e', vx', vy', k1, .step (.here _ _ _ i h1 m2 h3) ?_⟩
   rw [m3]
   exact k2
  | there _ p =>
   cases p with
   | there _ p => cases p
theorem one_right : ∀ (n : Nat) {b : S}, T.K - T.ht b = n → T.V b → Star T.toGar [T.e, b] [b, T.e] := by
 intro n
 induction n using Nat.strongRecOn with
 | _ n ih =>
  intro b hn hb
  by_cases h : ∃ j, j < T.N ∧ T.E b j = true
  ·obtain ⟨j, hj, he⟩ := h
   have v1 := T.vbk hb hj
   have e1 : T.E (T.bk b j) j = false := by rw [T.Ebk hb hj, he]; rfl
   have e2 := T.bkbk hb hj
   have l1 := T.lbk v1 hj e1
   rw [e2] at l1
   have hk := T.hK v1
   have h1 := ih (T.K - T.ht (T.bk b j)) (by omega) rfl v1
   obtain ⟨x', y', e', vx', vy', _, k2⟩ := lift_end hj h1 _ _ rfl T.ve v1 e1
   cases e'
   rw [e2] at k2
   refine k2.trans (.one ?_)
   have p := Pull.here (G := T.toGar) (T.bk b j) (T.bk T.e j) [] j hj (by rw [T.letK hj]; exact T.letB hj) e1
   rw [e2, T.letK hj, T.letF hj] at p
   rw [T.letK hj]
   exact p
  ·have : b = T.e := T.isE hb fun i hi => by cases hh : T.E b i with | false => rfl | true => exact absurd ⟨i, hi, hh⟩ h
   rw [this]
   exact .refl _
theorem co_star : ∀ (n : Nat) {c : S}, muG T.toGar [c, T.co c] = n → T.V c → Star T.toGar [c, T.co c] [T.D, T.e] := by
 intro n
 induction n using Nat.strongRecOn with
 | _ n ih =>
  intro c hn hc
  by_cases h : ∃ i, i < T.N ∧ T.E c i = false
  ·obtain ⟨i, hi, he⟩ := h
   have p := Pull.here (G := T.toGar) c (T.co c) [] i hi (by rw [T.coB hc hi, he]; rfl) he
   have hm := p.mu (vs_cons hc (vs_cons (T.vco hc) vs_nil))
   rw [T.cofr hc hi] at p hm
   exact .step p (ih _ (by omega) rfl (T.vbk hc hi))
  ·have : c = T.D := T.isD hc fun i hi => by cases hh : T.E c i with | true => rfl | false => exact absurd ⟨i, hi, hh⟩ h
   rw [this, T.coD]
   exact .refl _
theorem noPull_top {X : List S} (h : NoPull T.toGar X) : NoPull T.toGar (T.D :: X) := by
 intro Y p
 cases p with
 | here _ _ _ i h1 _ h3 => rw [T.ED h1] at h3; cases h3
 | there _ p => exact h _ p
theorem pull_tail {X Z : List S} (h : Pull T.toGar X Z) : ∀ U, X = U ++ [T.e] → ∃ W, Z = W ++ [T.e] ∧ Pull T.toGar U W := by
 induction h with
 | here a b X i h1 h2 h3 =>
  intro U e
  rcases U with _ | ⟨u, U⟩
  ·simp at e
  ·rcases U with _ | ⟨v, U⟩
   ·simp at e
    obtain ⟨_, rfl, _⟩ := e
    rw [T.Be h1] at h2; cases h2
   ·simp only [List.cons_append, List.cons.injEq] at e
    obtain ⟨rfl, rfl, rfl⟩ := e
    exact ⟨_ :: _ :: U, by simp, .here _ _ _ i h1 h2 h3⟩
 | there a p ih =>
  intro U e
  rcases U with _ | ⟨u, U⟩
  ·simp only [List.nil_append, List.cons.injEq] at e
   obtain ⟨_, rfl⟩ := e
   cases p
  ·simp only [List.cons_append, List.cons.injEq] at e
   obtain ⟨rfl, rfl⟩ := e
   obtain ⟨W, rfl, hW⟩ := ih U rfl
   exact ⟨a :: W, rfl, .there a hW⟩
theorem noPull_tail {X : List S} (h : NoPull T.toGar X) : NoPull T.toGar (X ++ [T.e]) := fun Y p => by
 obtain ⟨W, _, hW⟩ := pull_tail p X rfl
 exact h W hW
theorem star_tail {X Z : List S} (h : Star T.toGar X Z) : ∀ U, X = U ++ [T.e] → ∃ W, Z = W ++ [T.e] ∧ Star T.toGar U W := by
 induction h with
 | refl => intro U e; exact ⟨U, e, .refl _⟩
 | step p _ ih =>
  intro U e
  obtain ⟨W, e2, hW⟩ := pull_tail p U e
  obtain ⟨W2, e3, h3⟩ := ih W e2
  exact ⟨W2, e3, .step hW h3⟩
theorem noPull_one (a : S) : NoPull T.toGar [a] := fun Y p => by
 cases p with
 | there _ p => cases p
/-- the half twist goes to the left past a simple braid. -/
theorem top_one {a : S} (ha : T.V a) : Star T.toGar [a, T.D] [T.D, T.fl a] := by
 have va := T.vco ha
 have hv : Vs T.toGar [a, T.co a, T.fl a] := vs_cons ha (vs_cons va (vs_cons (T.vfl ha) vs_nil))
 have h1 : Star T.toGar [a, T.co a, T.fl a] [T.D, T.fl a, T.e] := ((co_star _ rfl ha).post [T.fl a]).trans ((one_right _ rfl (T.vfl ha)).there T.D)
 have h2 : Star T.toGar [a, T.co a, T.fl a] ([a, T.D] ++ [T.e]) := by
  have := (co_star (T := T) _ rfl va).there a
  rw [T.coco ha] at this
  exact this
 obtain ⟨W, w1, w2⟩ := norm_ex _ (h2.vs hv)
 have n1 : NoPull T.toGar [T.D, T.fl a, T.e] := noPull_top (noPull_tail (X := [T.fl a]) (noPull_one _))
 have e := norm_one hv h1 n1 (h2.trans w1) w2
 rw [← e] at w1
 obtain ⟨W2, e2, h3⟩ := star_tail w1 [a, T.D] rfl
 have : W2 = [T.D, T.fl a] := by
  have e3 : [T.D, T.fl a] ++ [T.e] = W2 ++ [T.e] := e2
  exact (List.append_cancel_right e3).symm
 rw [this] at h3
 exact h3
theorem top_far : ∀ {U : List S}, Vs T.toGar U → Star T.toGar (U ++ [T.D]) (T.D :: U.map T.fl)
 | [], _ => .refl _
 | a :: U, h => ((top_far fun x hx => h x (by simp [hx])).there a).trans ((top_one (h a (by simp))).post (U.map T.fl))
theorem ltrI_neg (x : Int) : ltrI (-x) = ltrI x := by
 unfold ltrI
 congr 1
 congr 1
 split <;> split <;> omega
theorem facL_star {w : List Int} (hw : ∀ x ∈ w, LetOk T.N x) : ∀ {L M : List S}, Vs T.toGar L → Star T.toGar L M → Star T.toGar (facL T L w) (facL T M w) := by
 induction w with
 | nil => intro L M _ h; exact h
 | cons x w ih =>
  intro L M hL h
  refine ih (fun y hy => hw y (by simp [hy])) (fac_vs hL (hw x (by simp))) ?_
  unfold facG
  split
  ·exact h.post _
  ·exact (h.map hL).post _
/-- half twists at the beginning and nothing at the end stay there. -/
theorem facL_top {w : List Int} (hw : ∀ x ∈ w, LetOk T.N x) : ∀ {L : List S}, Vs T.toGar L → Star T.toGar (facL T ([T.D] ++ L ++ [T.e]) w) ([T.D] ++ facL T L w ++ [T.e]) := by
 induction w with
 | nil => intro L _; exact .refl _
 | cons x w ih =>
  intro L hL
  have hx := hw x (by simp)
  have hi := ltrI_lt hx
  have hw2 : ∀ y ∈ w, LetOk T.N y := fun y hy => hw y (by simp [hy])
  refine Star.trans ?_ (ih hw2 (fac_vs hL hx))
  show Star T.toGar (facL T (facG T ([T.D] ++ L ++ [T.e]) x) w) _
  have hv : Vs T.toGar ([T.D] ++ L ++ [T.e]) := vs_app (vs_app (vs_cons T.vD vs_nil) hL) (vs_cons T.ve vs_nil)
  refine facL_star hw2 (fac_vs hv hx) ?_
  unfold facG
  split
  ·rw [List.append_assoc ([T.D] ++ L), ← List.append_assoc [T.D] L]
   have := (one_right (T := T) _ rfl (T.vfr T.ve hi)).pre ([T.D] ++ L)
   simpa using this
  ·rw [List.map_append, List.map_append, List.map_cons, List.map_nil, List.map_cons, List.map_nil, T.flD, T.fle, List.append_assoc ([T.D] ++ L.map T.fl)]
   have := (one_right (T := T) _ rfl (T.vbk T.vD hi)).pre ([T.D] ++ L.map T.fl)
   simpa using this
theorem pair_star {L : List S} {x : Int} (hL : Vs T.toGar L) (hx : LetOk T.N x) : Star T.toGar (facG T (facG T L x) (-x)) ([T.D] ++ L ++ [T.e]) := by
 have hi := ltrI_lt hx
 have h0 := hx.1
 have far : Star T.toGar (L.map T.fl ++ [T.D, T.e]) ([T.D] ++ L ++ [T.e]) := by
  have := (top_far (vs_map hL)).post [T.e]
  rw [map_flfl hL] at this
  simpa using this
 refine Star.trans ?_ far
 unfold facG
 by_cases hp : 0 < x
 ·rw [if_pos hp, if_neg (by omega), ltrI_neg, List.map_append, List.map_cons, List.map_nil, List.append_assoc]
  refine Star.pre _ ?_
  have hj : T.N - 1 - ltrI x < T.N := by omega
  rw [T.flfr T.ve hi, T.fle]
  have hc := co_star (T := T) _ rfl (T.vfr T.ve hj)
  rw [← T.letK hj, ← T.cofr T.ve hj, T.coe, T.frD hi] at hc
  rw [← T.letK hj]
  exact hc
 ·rw [if_neg hp, if_pos (by omega), ltrI_neg, List.append_assoc]
  refine Star.pre _ (.one ?_)
  have p := Pull.here (G := T.toGar) (T.bk T.D (ltrI x)) (T.fr T.e (ltrI x)) [] (ltrI x) hi (T.letB hi) (by rw [T.Ebk T.vD hi, T.ED hi]; rfl)
  rw [T.bkbk T.vD hi, T.letF hi] at p
  exact p
theorem nf_cancel {u v : List Int} {x : Int} (hu : ∀ y ∈ u, LetOk T.N y) (hx : LetOk T.N x) (hv : ∀ y ∈ v, LetOk T.N y) {Y Z : List S} (h : NfW T (u ++ [x, -x] ++ v) Y) (k : NfW T (u ++ v) Z) : Y = [T.D] ++ Z ++ [T.e] := by
 have vu := facL_vs (T := T) hu vs_nil
 have hxn : LetOk T.N (-x) := by
  obtain ⟨h1, h2⟩ := hx
  refine ⟨by omega, ?_⟩
  split at h2 <;> split <;> omega
 have vx := fac_vs (fac_vs vu hx) hxn
 have h1 : Star T.toGar (facL T [] (u ++ [x, -x] ++ v)) ([T.D] ++ facL T [] (u ++ v) ++ [T.e]) := by
  rw [facL_app, facL_app, facL_app]
  exact (facL_star hv vx (pair_star vu hx)).trans (facL_top hv vu)
 have h2 : Star T.toGar ([T.D] ++ facL T [] (u ++ v) ++ [T.e]) ([T.D] ++ Z ++ [T.e]) := k.1.ctx [T.D] [T.e]
 have hall : ∀ y ∈ u ++ [x, -x] ++ v, LetOk T.N y := by
  intro y hy
  simp only [List.mem_append, List.mem_cons, List.not_mem_nil, or_false] at hy
  rcases hy with (hy | rfl | rfl) | hy
  ·exact hu y hy
  ·exact hx
  ·exact hxn
  ·exact hv y hy
 exact norm_one (facL_vs hall vs_nil) h.1 h.2 (h1.trans h2) (noPull_tail (noPull_top k.2))
end
end Go.Proofs.YtglpfpdomnllkaaGreat

namespace Go.Proofs.YtglpfpdomnllkaaGreat
set_option maxRecDepth 100000

theorem itM_mod {m : MacV} {s : Int} {d : Nat} (h : Ord (permM m) s d) (n : Nat) : itM m s (n % d) = itM m s n := by
 have e : n = n % d + n / d * d := by have := Nat.mod_add_div n d; rw [Nat.mul_comm] at this; omega
 unfold itM
 conv => rhs; rw [e, itP_add, itP_mul h.back]
end Go.Proofs.YtglpfpdomnllkaaGreat

namespace Go.Proofs.YtglpfpdomnllkaaGreat
set_option maxRecDepth 100000

theorem slotG_inj {m : MacV} {g : Int} {i j : Nat} (hi : i < 4) (hj : j < 4) (h : slotG m g i = slotG m g j) : i = j := by
 have hi' : i = 0 ∨ i = 1 ∨ i = 2 ∨ i = 3 := by omega
 have hj' : j = 0 ∨ j = 1 ∨ j = 2 ∨ j = 3 := by omega
 cases hf : fwdM m g <;> rcases hi' with rfl | rfl | rfl | rfl <;> rcases hj' with rfl | rfl | rfl | rfl <;> simp [slotG, hf] at h ⊢ <;> omega
end Go.Proofs.YtglpfpdomnllkaaGreat

namespace Go.Proofs.YtglpfpdomnllkaaGreat
set_option maxRecDepth 100000
theorem word_app {n : Nat} {u v : List Int} (h : WordOk n u) (k : WordOk n v) : WordOk n (u ++ v) := fun x hx => by rcases List.mem_append.1 hx with hx | hx; exact h x hx; exact k x hx
theorem let_neg {N : Nat} {x : Int} (h : LetOk N x) : LetOk N (-x) := by
 obtain ⟨h1, h2⟩ := h
 refine ⟨by omega, ?_⟩
 split at h2 <;> split <;> omega
theorem form_cancel {n : Nat} {u v : List Int} {x : Int} (hu : WordOk n u) (hx : LetOk (n - 1) x) (hv : WordOk n v) : formW n (u ++ [x, -x] ++ v) = formW n (u ++ v) := by
 have hp : WordOk n [x, -x] := fun y hy => by
  simp only [List.mem_cons, List.not_mem_nil, or_false] at hy
  rcases hy with rfl | rfl
  ·exact hx
  ·exact let_neg hx
 have h1 := word_app (word_app hu hp) hv
 have h2 := word_app hu hv
 have e := nf_cancel (T := garN n) hu hx hv (nfY_ok h1) (nfY_ok h2)
 have hn : 2 ≤ n := by
  obtain ⟨a, b⟩ := hx
  split at b <;> omega
 have c1 : isD n (garN n).D = true := decide_eq_true rfl
 have c2 : isE n (garN n).e = true := decide_eq_true rfl
 have c3 : isD n (garN n).e = false := decide_eq_false (e_ne_D hn)
 have hneg : negC [x, -x] = 1 := by
  have := hx.1
  unfold negC
  by_cases hp : x < 0
  ·simp [List.filter_cons, hp, show ¬ 0 < x by omega]
  ·simp [List.filter_cons, hp, show 0 < x by omega]
 unfold formW formY
 rw [e]
 simp only [List.filter_append, List.filter_cons, List.filter_nil, c1, c2, c3, Bool.not_true, Bool.and_false, Bool.false_and, if_true, Bool.false_eq_true, if_false, List.append_nil, List.nil_append, List.length_append, List.length_cons, List.length_nil, negC_app, hneg]
 refine Prod.ext ?_ rfl
 dsimp only
 omega
/-- the word that leads back. -/
def invW (w : List Int) : List Int := (w.map fun x => -x).reverse
theorem invW_cons (x : Int) (w : List Int) : invW (x :: w) = invW w ++ [-x] := by simp [invW]
theorem form_undo {n : Nat} {v : List Int} (hv : WordOk n v) : ∀ {w u : List Int}, WordOk n w → WordOk n u → formW n (u ++ w ++ invW w ++ v) = formW n (u ++ v)
 | [], u, _, _ => by simp [invW]
 | x :: w, u, hw, hu => by
   have hx := hw x (by simp)
   have hw2 : WordOk n w := fun y hy => hw y (by simp [hy])
   have h1 : WordOk n [x] := fun y hy => by rw [List.mem_singleton.1 hy]; exact hx
   have h2 : WordOk n ([-x] ++ v) := word_app (fun y hy => by rw [List.mem_singleton.1 hy]; exact let_neg hx) hv
   have e := form_undo h2 hw2 (word_app hu h1)
   rw [show u ++ (x :: w) ++ invW (x :: w) ++ v = u ++ [x] ++ w ++ invW w ++ ([-x] ++ v) by rw [invW_cons]; simp, e, show u ++ [x] ++ ([-x] ++ v) = u ++ [x, -x] ++ v by simp]
   exact form_cancel hu hx hv
theorem form_again {n : Nat} {w : List Int} (h : WordOk n w) : formW n (w ++ invW w ++ w) = formW n w := by
 have := form_undo (n := n) (v := w) (u := []) h h (fun x hx => absurd hx (by simp))
 rwa [List.nil_append] at this
section
variable {S : Type} {T : GarT S}
end
end Go.Proofs.YtglpfpdomnllkaaGreat

namespace Go.Proofs.YtglpfpdomnllkaaGreat
open Go.RowKit
set_option maxHeartbeats 8000000
set_option maxRecDepth 100000

theorem after_any (m : MacV) (ad : Option Addr) (cap : Nat) (s n : Int) (w : World) (hR : Ints w ad cap m.sw) (hg : m.gears ≤ 16) (h0 : 0 ≤ s) (h1 : s < 4 * m.gears) (n0 : 0 ≤ n) (n1 : n ≤ 9223372036854775807) :
  Calls Tryz.prog 66 #[mV m ad cap, .int .i64 s, .int .i64 n] w fun r w' => r = .returned (.int .i64 (itM m s n.toNat)) ∧ Below w.heap.size w w' := by
 obtain ⟨d, hd⟩ := ordM h0 h1
 have hd0 := hd.pos
 have hdl := hd.le
 rw [permM_len] at hdl
 have hd64 : d ≤ 64 := by omega
 have CN := fun (k : Nat) w (h : Ints w ad cap m.sw) => mnext_any m ad cap (itM m s k) w h hg (itM_rng h0 h1 k).1 (itM_rng h0 h1 k).2
 have CE := fun (k : Nat) => itM_succ h0 h1 k
 have hback : itM m s d = s := hd.back
 have hmin : ∀ k, 0 < k → k < d → itM m s k ≠ s := fun k a b => hd.min k a b
 have hmod := itM_mod hd n.toNat
 have hmd : n.tmod d = ((n.toNat % d : Nat) : Int) := by
  rw [Int.tmod_eq_emod_of_nonneg n0]
  obtain ⟨k, rfl⟩ : ∃ k : Nat, n = k := ⟨n.toNat, by omega⟩
  simp
 obtain ⟨r, hr⟩ : ∃ r, r = n.toNat % d := ⟨_, rfl⟩
 rw [← hr] at hmod hmd
 have hrd : r < d := by rw [hr]; exact Nat.mod_lt _ hd0
 have hs0 : itM m s 0 = s := rfl
 have hS := (SL.nil w).box (.cells (mC m ad cap) 24)
 have HN := hid CN; have HE := hid CE; have HB := hid hback; have HM := hid hmin; have HO := hid hmod
 clear CN CE hback hmin hmod hd hdl hr
 rw [← HO.out]
 have CZ := HN.out 0
 rw [hs0, ← hs0, ← HE.out 0, hs0] at CZ
 have HZ := hid CZ
 clear CZ
 go_enter Tryz.func66, Tryz.ntmps66
 go_wp2_with fail
 have q1 := (hS.blk 0 rfl).1
 refine (HZ.out _ (hR.below hS.b)).mono ?_
 rintro e w1 ⟨rfl, b1⟩
 have hS1 := hS.mono b1
 clear q1
 go_wp2_with fail
 go_loopw [7, 8] (fun n x wr => ∃ k : Nat, 1 ≤ k ∧ k ≤ d ∧ n = .int .i64 k ∧ x = .int .i64 (itM m s k) ∧ SL w.heap.size w wr [pBlk w.heap.size (.cells (mC m ad cap) 24)]) (fun n _ _ => d - (intOf n).toNat)
 case atStart => exact ⟨1, by omega, by omega, rfl, rfl, hS1⟩
 case round =>
  clear hS hS1
  obtain ⟨k, hk1, hk2, rfl, rfl, hSr⟩ := hrel
  by_cases hkd : k < d
  ·have hne : (itM m s k != s) = true := by simpa using HM.out k (by omega) hkd
   have q1 := (hSr.blk 0 rfl).1
   have C := fun w h => HN.out k w h
   rw [← HE.out k] at C
   have HC := hid C
   clear C
   go_wp2_with (with_reducible refine wpList_ldS (n := 4) (us := mC m ad cap) A_mach kR wU wU (by assumption) wU wU ?_)
   refine (HC.out _ (hR.below hSr.b)).mono ?_
   rintro e w2 ⟨rfl, b2⟩
   have hS2 := hSr.mono b2
   go_wp2_with fail
   exact ⟨⟨k + 1, by omega, by omega, by go_num, rfl, hS2⟩, by simp [intOf]; omega⟩
  ·have hkk : k = d := by omega
   subst hkk
   rw [HB.out]
   have hne : (s != s) = false := by simp
   have hz : ((k : Int) == 0) = false := by simp; omega
   go_wp2_with fail
   go_loopw [1, 23] (fun x i wq => ∃ j : Nat, j ≤ r ∧ i = .int .i64 j ∧ x = .int .i64 (itM m s j) ∧ SL w.heap.size w wq [pBlk w.heap.size (.cells (mC m ad cap) 24)]) (fun _ i _ => r - (intOf i).toNat)
   case atStart => exact ⟨0, by omega, rfl, rfl, hSr⟩
   case round =>
    clear hSr
    obtain ⟨j, hj, rfl, rfl, hSq⟩ := hrel
    by_cases hjr : j < r
    ·have q1 := (hSq.blk 0 rfl).1
     have C := fun w h => HN.out j w h
     rw [← HE.out j] at C
     have HC := hid C
     clear C
     go_wp2_with (with_reducible refine wpList_ldS (n := 4) (us := mC m ad cap) A_mach kR wU wU (by assumption) wU wU ?_)
     refine (HC.out _ (hR.below hSq.b)).mono ?_
     rintro e w2 ⟨rfl, b2⟩
     have hS2 := hSq.mono b2
     go_wp2_with fail
     exact ⟨⟨j + 1, by omega, by go_num, rfl, hS2⟩, by simp [intOf]; omega⟩
    ·have hjj : j = r := by omega
     subst hjj
     go_wp2_with fail
     go_ret
     exact ⟨rfl, hSq.b⟩
end Go.Proofs.YtglpfpdomnllkaaGreat

namespace Go.Proofs.YtglpfpdomnllkaaGreat
open Go.RowKit
set_option maxHeartbeats 8000000
set_option maxRecDepth 100000

theorem steps1_any (m : MacV) (ad : Option Addr) (cap : Nat) (bm bn : Nat) (s n : Int) (w : World) (hm : w.heap[bm]? = some (.cells (mC m ad cap) 24)) (hn : w.heap[bn]? = some (.cells #[.int .i64 n] 3)) (hR : Ints w ad cap m.sw) (hg : m.gears ≤ 16) (h0 : 0 ≤ s) (h1 : s < 4 * m.gears) (n0 : 0 ≤ n) (n1 : n ≤ 9223372036854775807) :
  Calls Tryz.prog 78 #[.int .i64 s, .pointer (some ⟨bm, 0, none⟩), .pointer (some ⟨bn, 0, none⟩)] w fun r w' => r = .returned (.int .i64 (itM m s n.toNat)) ∧ Below w.heap.size w w' := by
 have CA := fun w h => after_any m ad cap s n w h hg h0 h1 n0 n1
 have HA := hid CA
 clear CA
 go_enter Tryz.func78, Tryz.ntmps78
 go_wp2_with (first | (with_reducible refine wpList_ldS (n := 4) (us := mC m ad cap) A_mach kR wU wU (by assumption) wU wU ?_) | (with_reducible refine wpList_ldB F_int wU wU hn wU ?_))
 refine (HA.out _ hR).mono ?_
 rintro e w1 ⟨rfl, b1⟩
 go_wp2_with fail
 go_ret
 exact ⟨rfl, b1⟩

/-- mapped with a function of the program, of which the places are given. -/
theorem mappedS_any (p1 p2 : Value) (g : Int → Int) (al : Option Addr) (cl : Nat) (l : List Int) (w : World) (hL : Ints w al cl l) (hn : l.length ≤ 1048576)
  (HF : ∀ x ∈ l, ∀ w', Below w.heap.size w w' → Calls Tryz.prog 78 #[.int .i64 x, p1, p2] w' fun r w'' => r = .returned (.int .i64 (g x)) ∧ Below w'.heap.size w' w'') :
  Calls Tryz.prog 53 #[.slice al l.length cl, .func (.func 78) #[] #[p1, p2]] w fun r w' => ∃ v, r = .returned v ∧ OwnI w.heap.size w' v (l.map g) ∧ Below w.heap.size w w' := by
 have hcap := hL.le
 have hmx := hL.max
 have H := hid HF
 clear HF
 have hS := (SL.nil w).nilS (α := Int) (e := 3) cIntS
 go_enter Tryz.func53, Tryz.ntmps53
 go_wp2_with fail
 go_loopw [5, 10] (fun v i wr => ∃ k : Nat, k ≤ l.length ∧ i = .int .i64 k ∧ SL w.heap.size w wr [pOwn cInt 1 3 v ((l.take k).map g)]) (fun _ i _ => l.length - (intOf i).toNat)
 case atStart => exact ⟨0, by omega, rfl, hS⟩
 case round =>
  clear hS
  obtain ⟨k, hk, rfl, hSr⟩ := hrel
  have hLr := hL.below hSr.b
  by_cases hlt : k < l.length
  ·have hmem := atD_mem hlt
   have ht := take_snoc hlt
   have hlen : ((l.take k).map g).length ≤ 1048576 := by simp; omega
   obtain ⟨x, hx⟩ : ∃ x, x = atD 0 l k := ⟨_, rfl⟩
   rw [← hx] at hmem ht
   have HX := hid hx; have HT := hid ht
   clear hx ht
   go_wp2_with ((with_reducible refine wpList_idx _ 0 E_ints F_int cInt1 wU wU (hLr) oD oD (fun _ => wU) (fun _ => ?_)); rw [← HX.out])
   refine (H.out x hmem _ hSr.b).mono ?_
   rintro e w1 ⟨rfl, b1⟩
   have hS1 := hSr.mono b1
   go_wp2_with ((with_reducible refine wpList_pushL (y := (g x)) 0 E_ints wU wU (hS1) wU cIntO ⟨rfl, rfl⟩ (by first | with_unfolding_all rfl | simp) wU (by first | omega | (simp; omega)) (by first | omega | (simp; omega)) ?_); intro v2 w2 hS2)
   exact ⟨⟨k + 1, by omega, by go_num, by rw [HT.out, List.map_append]; exact hS2⟩, by simp [intOf]; omega⟩
  ·have hkk : k = l.length := by omega
   subst hkk
   rw [List.take_length] at hSr
   go_wp2_with fail
   go_ret
   exact ⟨_, rfl, hSr.own 0 rfl, hSr.b⟩

def stepsE (m : MacV) (l : List Int) (n : Int) : Int := if loadE m l ≠ 0 then loadE m l else if n < 0 ∨ 999999999 < n then 3 else 0

theorem mSteps_any (m : MacV) (ad : Option Addr) (cap : Nat) (al : Option Addr) (cl : Nat) (l : List Int) (n : Int) (w : World) (hR : Ints w ad cap m.sw) (hL : Ints w al cl l) (HK : ChkL m ad cap al cl l) :
  Calls Tryz.prog 31 #[mV m ad cap, .slice al l.length cl, .int .i64 n] w fun r w' => ∃ v, r = .returned (.tuple #[v, .int .i64 (stepsE m l n)]) ∧ OwnI w.heap.size w' v (if stepsE m l n = 0 then l.map (fun s => itM m s n.toNat) else []) ∧ Below w.heap.size w w' := by
 have hcap := hL.le
 have hmx := hL.max
 have hS := ((SL.nil w).box (.cells (mC m ad cap) 24)).box (.cells #[.int .i64 n] 3)
 simp only [World.size_alloc] at hS
 have q1 := (hS.blk 1 rfl).1
 have q0 := (hS.blk 0 rfl).1
 have R1 := hR.below hS.b
 have L1 := hL.below hS.b
 unfold ChkL at HK
 by_cases he : loadE m l = 0
 ·have hok := loadE_zero he
  by_cases c1 : n < 0
  ·have d1 : decide (n < 0) = true := decide_eq_true c1
   have hv : stepsE m l n = 3 := by unfold stepsE; rw [if_neg (by simp [he]), if_pos (.inl c1)]
   rw [he] at HK
   rw [hv]
   clear hv he hok c1
   go_enter Tryz.func31, Tryz.ntmps31
   go_wp2_with fail
   refine wp_region_qt 10 kR kR ?_
   simp only [List.take_succ_cons, List.take_zero, List.drop_succ_cons, List.drop_zero]
   repeat (first | ((with_reducible refine wpB_loadS (n := 4) (us := mC m ad cap) A_mach kR wU wU (by assumption) wU wU ?_); (try simp only [Act.put, pA, pB, pC])) | ((with_reducible refine wpB_load F_int wU wU (by assumption) wU ?_); (try simp only [Act.put, pA, pB, pC])) | ((refine wpB_call (.int .i64 0) wU (fun w' => ?_) (fun w' hw' => HK w' (R1.below hw') (L1.below hw')) ?_); (focus (go_simp; done)); (try simp only [Act.put, pA, pB, pC])) | ((with_reducible refine wpB_when wU wU wU ?_); (try simp only [Act.put, pA, pB, pC])) | ((with_reducible refine wpQ_skip wU ?_); (try simp only [Act.put, pA, pB, pC])) |  ((with_reducible refine wpB_load (by first | exact F_int | fail) wU wU (by assumption) wU ?_); (try simp only [Act.put, pA, pB, pC])) | ((with_reducible refine wpB_loadS (n := 2) (us := #[_, _]) (by fail) kR wU wU (by assumption) wU wU ?_); (try simp only [Act.put, pA, pB, pC])) | ((with_reducible refine wpB_loadS (n := 4) (us := #[_, _, _, _]) (by fail) kR wU wU (by assumption) wU wU ?_); (try simp only [Act.put, pA, pB, pC])) | ((refine wpQ_oneG ?_ wU (fun w' => ?_) ?_); rotate_left; (go_simp; rfl); (try simp only [Act.put, pA, pB, pC])))
   refine wpQuiet_nil ?_
   intro w1 hb1
   have hS2 := hS.mono hb1
   go_wp2_with (go_at_call 55; refine (mfirst_any _ _ [_, _] _ (reps_newN cIntS [_, _] 2 rfl (by decide) _ _ (by simp) rfl)).mono ?_; rw [firstE_z, firstE_head (by decide)]; rintro e w' ⟨rfl, rfl⟩)
   go_ret2
   exact ⟨_, rfl, own_nil cIntS, bal hS2.b _⟩
  have d1 : decide (n < 0) = false := decide_eq_false c1
  by_cases c2 : 999999999 < n
  ·have d2 : decide (999999999 < n) = true := decide_eq_true c2
   have hv : stepsE m l n = 3 := by unfold stepsE; rw [if_neg (by simp [he]), if_pos (.inr c2)]
   rw [he] at HK
   rw [hv]
   clear hv he hok c2
   go_enter Tryz.func31, Tryz.ntmps31
   go_wp2_with fail
   refine wp_region_qt 10 kR kR ?_
   simp only [List.take_succ_cons, List.take_zero, List.drop_succ_cons, List.drop_zero]
   repeat (first | ((with_reducible refine wpB_loadS (n := 4) (us := mC m ad cap) A_mach kR wU wU (by assumption) wU wU ?_); (try simp only [Act.put, pA, pB, pC])) | ((with_reducible refine wpB_load F_int wU wU (by assumption) wU ?_); (try simp only [Act.put, pA, pB, pC])) | ((refine wpB_call (.int .i64 0) wU (fun w' => ?_) (fun w' hw' => HK w' (R1.below hw') (L1.below hw')) ?_); (focus (go_simp; done)); (try simp only [Act.put, pA, pB, pC])) | ((with_reducible refine wpB_when wU wU wU ?_); (try simp only [Act.put, pA, pB, pC])) | ((with_reducible refine wpQ_skip wU ?_); (try simp only [Act.put, pA, pB, pC])) |  ((with_reducible refine wpB_load (by first | exact F_int | fail) wU wU (by assumption) wU ?_); (try simp only [Act.put, pA, pB, pC])) | ((with_reducible refine wpB_loadS (n := 2) (us := #[_, _]) (by fail) kR wU wU (by assumption) wU wU ?_); (try simp only [Act.put, pA, pB, pC])) | ((with_reducible refine wpB_loadS (n := 4) (us := #[_, _, _, _]) (by fail) kR wU wU (by assumption) wU wU ?_); (try simp only [Act.put, pA, pB, pC])) | ((refine wpQ_oneG ?_ wU (fun w' => ?_) ?_); rotate_left; (go_simp; rfl); (try simp only [Act.put, pA, pB, pC])))
   refine wpQuiet_nil ?_
   intro w1 hb1
   have hS2 := hS.mono hb1
   go_wp2_with (go_at_call 55; refine (mfirst_any _ _ [_, _] _ (reps_newN cIntS [_, _] 2 rfl (by decide) _ _ (by simp) rfl)).mono ?_; rw [firstE_z, firstE_head (by decide)]; rintro e w' ⟨rfl, rfl⟩)
   go_ret2
   exact ⟨_, rfl, own_nil cIntS, bal hS2.b _⟩
  ·have d2 : decide (999999999 < n) = false := decide_eq_false c2
   have hv : stepsE m l n = 0 := by unfold stepsE; rw [if_neg (by simp [he]), if_neg (by omega)]
   rw [he] at HK
   rw [hv, if_pos rfl]
   have hrng := hok.rng
   have hhi := hok.ok.hi
   have hfew := hok.few
   have HRNG := hid hrng
   clear hv he hok hrng
   go_enter Tryz.func31, Tryz.ntmps31
   go_wp2_with fail
   refine wp_region_qt 10 kR kR ?_
   simp only [List.take_succ_cons, List.take_zero, List.drop_succ_cons, List.drop_zero]
   repeat (first | ((with_reducible refine wpB_loadS (n := 4) (us := mC m ad cap) A_mach kR wU wU (by assumption) wU wU ?_); (try simp only [Act.put, pA, pB, pC])) | ((with_reducible refine wpB_load F_int wU wU (by assumption) wU ?_); (try simp only [Act.put, pA, pB, pC])) | ((refine wpB_call (.int .i64 0) wU (fun w' => ?_) (fun w' hw' => HK w' (R1.below hw') (L1.below hw')) ?_); (focus (go_simp; done)); (try simp only [Act.put, pA, pB, pC])) | ((with_reducible refine wpB_when wU wU wU ?_); (try simp only [Act.put, pA, pB, pC])) | ((with_reducible refine wpQ_skip wU ?_); (try simp only [Act.put, pA, pB, pC])) |  ((with_reducible refine wpB_load (by first | exact F_int | fail) wU wU (by assumption) wU ?_); (try simp only [Act.put, pA, pB, pC])) | ((with_reducible refine wpB_loadS (n := 2) (us := #[_, _]) (by fail) kR wU wU (by assumption) wU wU ?_); (try simp only [Act.put, pA, pB, pC])) | ((with_reducible refine wpB_loadS (n := 4) (us := #[_, _, _, _]) (by fail) kR wU wU (by assumption) wU wU ?_); (try simp only [Act.put, pA, pB, pC])) | ((refine wpQ_oneG ?_ wU (fun w' => ?_) ?_); rotate_left; (go_simp; rfl); (try simp only [Act.put, pA, pB, pC])))
   refine wpQuiet_nil ?_
   intro w1 hb1
   have hS2 := hS.mono hb1
   go_wp2_with (go_at_call 55; refine (mfirst_any _ _ [_, _] _ (reps_newN cIntS [_, _] 2 rfl (by decide) _ _ (by simp) rfl)).mono ?_; rw [firstE_z, firstE_z, firstE_nil]; rintro e w' ⟨rfl, rfl⟩)
   have hS4 := hS2.al (.cells #[.int .i64 0, .int .i64 0] 34)
   have q5 := (hS4.blk 1 rfl).1
   have q4 := (hS4.blk 0 rfl).1
   have t4 := hS4.b
   refine (mappedS_any _ _ (fun s => itM m s n.toNat) al cl l _ (hL.below t4) (by omega) (fun x hx w' hw' => ?_)).mono ?_
   ·refine steps1_any m ad cap _ _ x n w' ?_ ?_ ((hR.below t4).below hw') hhi (HRNG.out x hx).1 (HRNG.out x hx).2 (by omega) (by omega)
    ·exact (hw'.block _ (hS4.blk 1 rfl).2.2).trans q5
    ·exact (hw'.block _ (hS4.blk 0 rfl).2.2).trans q4
   rintro e w5 ⟨v, rfl, ho, b5⟩
   go_wp2_with fail
   go_ret2
   exact ⟨_, rfl, ho.mono t4.size, bnext t4 b5⟩
 ·obtain ⟨E, hE⟩ : ∃ E, E = loadE m l := ⟨_, rfl⟩
  have hv : stepsE m l n = E := by unfold stepsE; rw [if_pos he, hE]
  rw [← hE] at HK he
  have hne : (E != 0) = true := by simpa using he
  rw [hv, if_neg he]
  clear hv hE
  cases d1 : decide (n < 0)
  ·go_enter Tryz.func31, Tryz.ntmps31
   go_wp2_with fail
   refine wp_region_qt 10 kR kR ?_
   simp only [List.take_succ_cons, List.take_zero, List.drop_succ_cons, List.drop_zero]
   repeat (first | ((with_reducible refine wpB_loadS (n := 4) (us := mC m ad cap) A_mach kR wU wU (by assumption) wU wU ?_); (try simp only [Act.put, pA, pB, pC])) | ((with_reducible refine wpB_load F_int wU wU (by assumption) wU ?_); (try simp only [Act.put, pA, pB, pC])) | ((refine wpB_call (.int .i64 E) wU (fun w' => ?_) (fun w' hw' => HK w' (R1.below hw') (L1.below hw')) ?_); (focus (go_simp; done)); (try simp only [Act.put, pA, pB, pC])) | ((with_reducible refine wpB_when wU wU wU ?_); (try simp only [Act.put, pA, pB, pC])) | ((with_reducible refine wpQ_skip wU ?_); (try simp only [Act.put, pA, pB, pC])) |  ((with_reducible refine wpB_load (by first | exact F_int | fail) wU wU (by assumption) wU ?_); (try simp only [Act.put, pA, pB, pC])) | ((with_reducible refine wpB_loadS (n := 2) (us := #[_, _]) (by fail) kR wU wU (by assumption) wU wU ?_); (try simp only [Act.put, pA, pB, pC])) | ((with_reducible refine wpB_loadS (n := 4) (us := #[_, _, _, _]) (by fail) kR wU wU (by assumption) wU wU ?_); (try simp only [Act.put, pA, pB, pC])) | ((refine wpQ_oneG ?_ wU (fun w' => ?_) ?_); rotate_left; (go_simp; rfl); (try simp only [Act.put, pA, pB, pC])))
   refine wpQuiet_nil ?_
   intro w1 hb1
   have hS2 := hS.mono hb1
   go_wp2_with (go_at_call 55; refine (mfirst_any _ _ [_, _] _ (reps_newN cIntS [_, _] 2 rfl (by decide) _ _ (by simp) rfl)).mono ?_; rw [firstE_head he]; rintro e w' ⟨rfl, rfl⟩)
   all_goals go_ret2
   all_goals exact ⟨_, rfl, own_nil cIntS, bal hS2.b _⟩
  ·go_enter Tryz.func31, Tryz.ntmps31
   go_wp2_with fail
   refine wp_region_qt 10 kR kR ?_
   simp only [List.take_succ_cons, List.take_zero, List.drop_succ_cons, List.drop_zero]
   repeat (first | ((with_reducible refine wpB_loadS (n := 4) (us := mC m ad cap) A_mach kR wU wU (by assumption) wU wU ?_); (try simp only [Act.put, pA, pB, pC])) | ((with_reducible refine wpB_load F_int wU wU (by assumption) wU ?_); (try simp only [Act.put, pA, pB, pC])) | ((refine wpB_call (.int .i64 E) wU (fun w' => ?_) (fun w' hw' => HK w' (R1.below hw') (L1.below hw')) ?_); (focus (go_simp; done)); (try simp only [Act.put, pA, pB, pC])) | ((with_reducible refine wpB_when wU wU wU ?_); (try simp only [Act.put, pA, pB, pC])) | ((with_reducible refine wpQ_skip wU ?_); (try simp only [Act.put, pA, pB, pC])) |  ((with_reducible refine wpB_load (by first | exact F_int | fail) wU wU (by assumption) wU ?_); (try simp only [Act.put, pA, pB, pC])) | ((with_reducible refine wpB_loadS (n := 2) (us := #[_, _]) (by fail) kR wU wU (by assumption) wU wU ?_); (try simp only [Act.put, pA, pB, pC])) | ((with_reducible refine wpB_loadS (n := 4) (us := #[_, _, _, _]) (by fail) kR wU wU (by assumption) wU wU ?_); (try simp only [Act.put, pA, pB, pC])) | ((refine wpQ_oneG ?_ wU (fun w' => ?_) ?_); rotate_left; (go_simp; rfl); (try simp only [Act.put, pA, pB, pC])))
   refine wpQuiet_nil ?_
   intro w1 hb1
   have hS2 := hS.mono hb1
   go_wp2_with (go_at_call 55; refine (mfirst_any _ _ [_, _] _ (reps_newN cIntS [_, _] 2 rfl (by decide) _ _ (by simp) rfl)).mono ?_; rw [firstE_head he]; rintro e w' ⟨rfl, rfl⟩)
   all_goals go_ret2
   all_goals exact ⟨_, rfl, own_nil cIntS, bal hS2.b _⟩
end Go.Proofs.YtglpfpdomnllkaaGreat

namespace Go.Proofs.YtglpfpdomnllkaaGreat
set_option maxRecDepth 100000
theorem loadGo_ok (m : MacV) : ∀ (l pre : List Int), (∀ x ∈ l, 0 ≤ x ∧ x < 4 * m.gears) → (pre ++ l).Nodup → loadGo m pre l = 0
 | [], pre, _, _ => rfl
 | s :: r, pre, h, hn => by
   have hs := h s (by simp)
   have h2 : s ∉ pre := fun hm => by
     have := (List.nodup_append.1 hn).2.2 s hm s (by simp)
     exact this rfl
   rw [loadGo, if_neg (by omega), if_neg h2]
   exact loadGo_ok m r (pre ++ [s]) (fun x hx => h x (List.mem_cons_of_mem _ hx)) (by simpa using hn)
theorem loadE_ok {m : MacV} {l : List Int} (hm : macE m = 0) (hr : ∀ x ∈ l, 0 ≤ x ∧ x < 4 * m.gears) (hn : l.Nodup) : loadE m l = 0 := by
 have hle : (l.length : Int) ≤ 4 * m.gears := by
  have hg := (macE_zero hm).1.lo
  have := nodup_le (4 * m.gears).toNat l hn (fun x hx => by have := hr x hx; omega)
  omega
 unfold loadE
 rw [if_neg (by simp [hm]), if_neg (by omega)]
 exact loadGo_ok m l [] hr (by simpa using hn)
theorem nodup_map {l : List Int} {f : Int → Int} (hn : l.Nodup) (h : ∀ x ∈ l, ∀ y ∈ l, f x = f y → x = y) : (l.map f).Nodup := by
 rw [List.nodup_iff_pairwise_ne, List.pairwise_map]
 exact (List.nodup_iff_pairwise_ne.1 hn).imp_of_mem fun {x y} hx hy hxy e => hxy (h x hx y hy e)
theorem atL_nodup {m : MacV} {l : List Int} (hr : ∀ x ∈ l, 0 ≤ x ∧ x < 4 * m.gears) (hn : l.Nodup) (k : Nat) : (atL m l k).Nodup :=
 nodup_map hn fun x hx y hy e => itM_inj (hr x hx).1 (hr x hx).2 (hr y hy).1 (hr y hy).2 k e
theorem atL_load {m : MacV} {l : List Int} (h : LoadOk m l) (k : Nat) : loadE m (atL m l k) = 0 := loadE_ok h.mac (atL_rng h.rng k) (atL_nodup h.rng h.nodup k)

theorem atD_map2 {l : List Int} {f : Int → Int} {i : Nat} (h : i < l.length) : atD 0 (l.map f) i = f (atD 0 l i) := by simp [atD, h]
def okC (c : CrM) : Prop := (c.over = c.going ∧ c.under ≠ c.going) ∨ (c.under = c.going ∧ c.over ≠ c.going)
theorem bothX_mem {f : Int → Int → CrM} {x y : Option Int} {c : CrM} (h : c ∈ (bothX f x y).toList) : ∃ a b, x = some a ∧ y = some b ∧ c = f a b := by
 cases x with
 | none => simp [bothX] at h
 | some a =>
  cases y with
  | none => simp [bothX] at h
  | some b => simp [bothX] at h; exact ⟨a, b, rfl, rfl, h⟩
theorem crossM_mem {m : MacV} {l : List Int} {c : CrM} (h : c ∈ crossM m l) : ∃ (g a b : Int) (i j : Nat), 0 ≤ g ∧ g < m.gears ∧ i < 4 ∧ j < 4 ∧ i ≠ j ∧ opG m l g i = some a ∧ opG m l g j = some b ∧ c = mkX m g a b ∧ a ≠ b := by
 unfold crossM at h
 obtain ⟨g, hg, h⟩ := List.mem_flatMap.1 h
 have hgr := gearsL_mem.1 hg
 rw [crossG_eq, crossA_eq, crossA_eq, crossA_eq] at h
 have fin : ∀ i j : Nat, i < 4 → j < 4 → i ≠ j → c ∈ (bothX (mkX m g) (opG m l g i) (opG m l g j)).toList → ∃ (g a b : Int) (i j : Nat), 0 ≤ g ∧ g < m.gears ∧ i < 4 ∧ j < 4 ∧ i ≠ j ∧ opG m l g i = some a ∧ opG m l g j = some b ∧ c = mkX m g a b ∧ a ≠ b := by
  intro i j hi hj hij hc
  obtain ⟨a, b, ha, hb, e⟩ := bothX_mem hc
  refine ⟨g, a, b, i, j, hgr.1, hgr.2, hi, hj, hij, ha, hb, e, fun eab => ?_⟩
  subst eab
  exact hij (slotG_inj hi hj (idxO_inj ha hb))
 rcases List.mem_append.1 h with h | h
 ·exact fin 1 2 (by decide) (by decide) (by decide) h
 ·rcases List.mem_append.1 h with h | h
  ·exact fin 0 2 (by decide) (by decide) (by decide) h
  ·exact fin 1 3 (by decide) (by decide) (by decide) h
theorem crossM_ok (m : MacV) (l : List Int) : ∀ c ∈ crossM m l, okC c := by
 intro c hc
 obtain ⟨g, a, b, i, j, _, _, _, _, _, _, _, e, hab⟩ := crossM_mem hc
 subst e
 unfold mkX okC
 split
 ·exact .inr ⟨rfl, fun e => hab e.symm⟩
 ·exact .inl ⟨rfl, fun e => hab e.symm⟩
end Go.Proofs.YtglpfpdomnllkaaGreat

namespace Go.Proofs.YtglpfpdomnllkaaGreat
set_option maxRecDepth 100000
theorem at_memI {l : List Int} {i : Nat} (h : i < l.length) : atD 0 l i ∈ l := by
 have e : atD 0 l (i : Int) = l[i] := by simp [atD, h]
 rw [e]; exact List.getElem_mem h
end Go.Proofs.YtglpfpdomnllkaaGreat

namespace Go.Proofs.YtglpfpdomnllkaaGreat
set_option maxRecDepth 100000
theorem first_is {m : MacV} {l : List Int} {v : Nat × Int} (h : firstM m l = some v) : ∃ p ∈ pairsTo l l.length, meetM m p.1 p.2 = some v := by
 obtain ⟨_, s2⟩ := foldF_spec m (pairsTo l l.length) none
 obtain ⟨_, _, k3⟩ := s2 _ h
 rcases k3 with k3 | k3
 ·cases k3
 ·exact k3
theorem itM_add (m : MacV) (s : Int) (a b : Nat) : itM m (itM m s b) a = itM m s (a + b) := by unfold itM; rw [itP_add]
theorem atL_add (m : MacV) (l : List Int) (a b : Nat) : atL m (atL m l b) a = atL m l (a + b) := by
 unfold atL
 rw [List.map_map]
 exact List.map_congr_left fun x _ => itM_add m x a b
end Go.Proofs.YtglpfpdomnllkaaGreat

namespace Go.Proofs.YtglpfpdomnllkaaGreat
set_option maxRecDepth 100000
/-- the rank of a slot from left to right. -/
def rankM (m : MacV) (s : Int) : Int := if s % 4 = 0 then 4 * (s / 4) else if s % 4 = 2 then 4 * (s / 4) + 3 else if (decide (s % 4 = 1)) = fwdM m (s / 4) then 4 * (s / 4) + 1 else 4 * (s / 4) + 2
theorem rank_slot (m : MacV) (g : Int) : rankM m (slotG m g 0) = 4 * g ∧ rankM m (slotG m g 1) = 4 * g + 1 ∧ rankM m (slotG m g 2) = 4 * g + 2 ∧ rankM m (slotG m g 3) = 4 * g + 3 := by
 have e0 : slotG m g 0 = 4 * g := rfl
 have e1 : slotG m g 1 = if fwdM m g then 4 * g + 1 else 4 * g + 3 := rfl
 have e2 : slotG m g 2 = if fwdM m g then 4 * g + 3 else 4 * g + 1 := rfl
 have e3 : slotG m g 3 = 4 * g + 2 := rfl
 rw [e0, e1, e2, e3]
 have d0 : (4 * g) / 4 = g := by omega
 have d1 : (4 * g + 1) / 4 = g := by omega
 have d2 : (4 * g + 2) / 4 = g := by omega
 have d3 : (4 * g + 3) / 4 = g := by omega
 have m0 : (4 * g) % 4 = 0 := by omega
 have m1 : (4 * g + 1) % 4 = 1 := by omega
 have m2 : (4 * g + 2) % 4 = 2 := by omega
 have m3 : (4 * g + 3) % 4 = 3 := by omega
 unfold rankM
 cases hf : fwdM m g
 ·simp [m0, m1, m2, m3, d0, d1, d2, d3, hf]
 ·simp [m0, m1, m2, m3, d0, d1, d2, d3, hf]
theorem slot_rank {m : MacV} {s : Int} : slotG m (s / 4) ((rankM m s % 4).toNat) = s ∧ rankM m s / 4 = s / 4 := by
 have hm : s % 4 = 0 ∨ s % 4 = 1 ∨ s % 4 = 2 ∨ s % 4 = 3 := by omega
 unfold rankM
 cases hf : fwdM m (s / 4)
 ·rcases hm with h | h | h | h
  ·rw [if_pos h, show (4 * (s / 4)) % 4 = 0 by omega]
   exact ⟨by show 4 * (s / 4) = s; omega, by omega⟩
  ·rw [if_neg (by omega), if_neg (by omega), if_neg (by simp [h]), show (4 * (s / 4) + 2) % 4 = 2 by omega]
   refine ⟨?_, by omega⟩
   show (if fwdM m (s / 4) then 4 * (s / 4) + 3 else 4 * (s / 4) + 1) = s
   rw [hf]; simp; omega
  ·rw [if_neg (by omega), if_pos h, show (4 * (s / 4) + 3) % 4 = 3 by omega]
   exact ⟨by show 4 * (s / 4) + 2 = s; omega, by omega⟩
  ·rw [if_neg (by omega), if_neg (by omega), if_pos (by simp [h]), show (4 * (s / 4) + 1) % 4 = 1 by omega]
   refine ⟨?_, by omega⟩
   show (if fwdM m (s / 4) then 4 * (s / 4) + 1 else 4 * (s / 4) + 3) = s
   rw [hf]; simp; omega
 ·rcases hm with h | h | h | h
  ·rw [if_pos h, show (4 * (s / 4)) % 4 = 0 by omega]
   exact ⟨by show 4 * (s / 4) = s; omega, by omega⟩
  ·rw [if_neg (by omega), if_neg (by omega), if_pos (by simp [h]), show (4 * (s / 4) + 1) % 4 = 1 by omega]
   refine ⟨?_, by omega⟩
   show (if fwdM m (s / 4) then 4 * (s / 4) + 1 else 4 * (s / 4) + 3) = s
   rw [hf]; simp; omega
  ·rw [if_neg (by omega), if_pos h, show (4 * (s / 4) + 3) % 4 = 3 by omega]
   exact ⟨by show 4 * (s / 4) + 2 = s; omega, by omega⟩
  ·rw [if_neg (by omega), if_neg (by omega), if_neg (by simp [h]), show (4 * (s / 4) + 2) % 4 = 2 by omega]
   refine ⟨?_, by omega⟩
   show (if fwdM m (s / 4) then 4 * (s / 4) + 3 else 4 * (s / 4) + 1) = s
   rw [hf]; simp; omega
/-- the slot with a rank. -/
def ofRank (m : MacV) (r : Int) : Int := slotG m (r / 4) (r % 4).toNat
theorem ofRank_iff {m : MacV} {s r : Int} : rankM m s = r ↔ s = ofRank m r := by
 constructor
 ·rintro rfl
  unfold ofRank
  obtain ⟨h1, h2⟩ := slot_rank (m := m) (s := s)
  rw [h2, h1]
 ·rintro rfl
  unfold ofRank
  obtain ⟨k0, k1, k2, k3⟩ := rank_slot m (r / 4)
  have hm : r % 4 = 0 ∨ r % 4 = 1 ∨ r % 4 = 2 ∨ r % 4 = 3 := by omega
  rcases hm with h | h | h | h
  ·rw [h]; show rankM m (slotG m (r / 4) 0) = r; rw [k0]; omega
  ·rw [h]; show rankM m (slotG m (r / 4) 1) = r; rw [k1]; omega
  ·rw [h]; show rankM m (slotG m (r / 4) 2) = r; rw [k2]; omega
  ·rw [h]; show rankM m (slotG m (r / 4) 3) = r; rw [k3]; omega
/-- the carriers in the order of their ranks. -/
def ordR (m : MacV) (l : List Int) (k : Nat) : List Int := (List.range k).filterMap fun (r : Nat) => idxO l (ofRank m r)
theorem ordR_gears (m : MacV) (l : List Int) : ∀ G : Nat, ordR m l (4 * G) = ((List.range G).map fun (g : Nat) => (g : Int)).flatMap (orderG m l)
 | 0 => rfl
 | G + 1 => by
   have ih := ordR_gears m l G
   rw [List.range_succ, List.map_append, List.flatMap_append, ← ih]
   have e : 4 * (G + 1) = 4 * G + 1 + 1 + 1 + 1 := by omega
   have f : ∀ k : Nat, ordR m l (k + 1) = ordR m l k ++ [idxO l (ofRank m (k : Int))].filterMap id := fun k => by
     unfold ordR
     rw [List.range_succ, List.filterMap_append]
     congr 1
   rw [e, f, f, f, f]
   simp only [List.append_assoc, ← List.filterMap_append, List.map_cons, List.map_nil, List.flatMap_cons, List.flatMap_nil, List.append_nil]
   congr 1
   rw [orderG_eq]
   unfold catO opG ofRank
   have a0 : ((4 * G : Nat) : Int) / 4 = G ∧ (((4 * G : Nat) : Int) % 4).toNat = 0 := by omega
   have a1 : ((4 * G + 1 : Nat) : Int) / 4 = G ∧ (((4 * G + 1 : Nat) : Int) % 4).toNat = 1 := by omega
   have a2 : ((4 * G + 1 + 1 : Nat) : Int) / 4 = G ∧ (((4 * G + 1 + 1 : Nat) : Int) % 4).toNat = 2 := by omega
   have a3 : ((4 * G + 1 + 1 + 1 : Nat) : Int) / 4 = G ∧ (((4 * G + 1 + 1 + 1 : Nat) : Int) % 4).toNat = 3 := by omega
   rw [a0.1, a0.2, a1.1, a1.2, a2.1, a2.2, a3.1, a3.2]
   rfl
theorem ordR_order (m : MacV) (l : List Int) (n : Nat) (hn : 4 * m.gears = n) : ordR m l n = orderM m l := by
 have e : n = 4 * m.gears.toNat := by omega
 rw [e, ordR_gears]
 rfl
end Go.Proofs.YtglpfpdomnllkaaGreat

namespace Go.Proofs.YtglpfpdomnllkaaGreat
set_option maxRecDepth 100000
theorem orderM_mem {m : MacV} {l : List Int} (hg : 0 ≤ m.gears) (hl : ∀ x ∈ l, 0 ≤ x ∧ x < 4 * m.gears) (hn : l.Nodup) {x : Int} : x ∈ orderM m l ↔ 0 ≤ x ∧ x < l.length := by
 obtain ⟨n, hnn⟩ : ∃ n : Nat, 4 * m.gears = n := ⟨(4 * m.gears).toNat, by omega⟩
 rw [← ordR_order m l n hnn]
 unfold ordR
 rw [List.mem_filterMap]
 constructor
 ·rintro ⟨r, _, h⟩
  obtain ⟨h0, h1, _⟩ := idxO_some h
  exact ⟨h0, h1⟩
 ·rintro ⟨h0, h1⟩
  obtain ⟨j, rfl⟩ : ∃ j : Nat, x = j := ⟨x.toNat, by omega⟩
  have hj : j < l.length := by omega
  have hs := hl _ (List.getElem_mem hj)
  have hrk := (ofRank_iff (m := m) (s := l[j]) (r := rankM m l[j])).1 rfl
  have hr0 : 0 ≤ rankM m l[j] ∧ rankM m l[j] < n := by
   have h4 := (slot_rank (m := m) (s := l[j])).2
   omega
  refine ⟨(rankM m l[j]).toNat, List.mem_range.2 (by omega), ?_⟩
  rw [Int.toNat_of_nonneg hr0.1, ← hrk]
  refine idxO_eq hj (List.getElem?_eq_getElem hj) (fun i hi e => ?_)
  have hil : i < l.length := by omega
  rw [List.getElem?_eq_getElem hil] at e
  have := (List.getElem_inj hn).1 (Option.some.inj e)
  omega
theorem orderM_length {m : MacV} {l : List Int} (hg : 0 ≤ m.gears) (hl : ∀ x ∈ l, 0 ≤ x ∧ x < 4 * m.gears) (hn : l.Nodup) : (orderM m l).length = l.length := by
 have hno := orderM_nodup m l
 refine Nat.le_antisymm ?_ ?_
 ·exact nodup_le l.length _ hno fun x hx => (orderM_mem hg hl hn).1 hx
 ·have h : ((List.range l.length).map fun (i : Nat) => (i : Int)).Nodup := by
   rw [List.nodup_iff_pairwise_ne, List.pairwise_map]
   refine (List.nodup_iff_pairwise_ne.1 List.nodup_range).imp fun {a b} hab e => hab (by omega)
  have := h.length_le_of_subset (l₂ := orderM m l) (fun x hx => by
   obtain ⟨i, hi, rfl⟩ := List.mem_map.1 hx
   exact (orderM_mem hg hl hn).2 ⟨by omega, by have := List.mem_range.1 hi; omega⟩)
  simpa using this
end Go.Proofs.YtglpfpdomnllkaaGreat

namespace Go.Proofs.YtglpfpdomnllkaaGreat
set_option maxRecDepth 100000
/-- the other carrier of a crossing. -/
def otherC (c : CrM) : Int := if c.over = c.going then c.under else c.over
theorem other_mkX (m : MacV) (g : Int) {a b : Int} (h : a ≠ b) : otherC (mkX m g a b) = b := by
 unfold otherC mkX
 cases fwdM m g
 ·simp
 ·simp; intro e; exact absurd e.symm h
/-- the carrier that goes to the right has the other one as its neighbour. -/
def nextC : List Int → List CrM → Prop
 | _, [] => True
 | r, c :: cs => (∃ i : Nat, idxO r c.going = some (i : Int) ∧ i + 1 < r.length ∧ atD 0 r ((i : Int) + 1) = otherC c) ∧ nextC (rowC r c) cs
theorem nextC_app : ∀ (xs ys : List CrM) (r : List Int), nextC r (xs ++ ys) ↔ nextC r xs ∧ nextC (xs.foldl rowC r) ys
 | [], ys, r => by simp [nextC]
 | c :: xs, ys, r => by
   rw [List.cons_append, nextC, nextC, List.foldl_cons, nextC_app xs ys (rowC r c), and_assoc]
theorem cross_next {m : MacV} {g : Int} {A C : List Int} {x y : Option Int} (hn : (A ++ [x, y].filterMap id ++ C).Nodup) :
  nextC (A ++ [x, y].filterMap id ++ C) (bothX (mkX m g) x y).toList := by
 match x, y with
 | none, none => trivial
 | none, some b => trivial
 | some a, none => trivial
 | some a, some b =>
  have e : (A ++ [some a, some b].filterMap id ++ C) = A ++ a :: b :: C := by simp
  rw [e] at hn ⊢
  have h1 := List.nodup_append.1 hn
  have ha : a ∉ A := fun hm => h1.2.2 a hm a (by simp) rfl
  have hab : a ≠ b := by
   have := (List.nodup_cons.1 h1.2.1).1
   intro e; subst e; exact this (by simp)
  refine ⟨⟨A.length, ?_, ?_, ?_⟩, trivial⟩
  ·rw [mkX_going]; exact idxO_mid ha
  ·simp
  ·rw [other_mkX m g hab]
   unfold atD
   have : ((A.length : Int) + 1).toNat = A.length + 1 := by omega
   rw [this, List.getD_eq_getElem?_getD, List.getElem?_append_right (by omega)]
   simp
theorem crossG_next (m : MacV) (l : List Int) (g : Int) {A C : List Int} (hn : (A ++ orderG m l g ++ C).Nodup) : nextC (A ++ orderG m l g ++ C) (crossG m l g) := by
 rw [crossG_eq, orderG_eq] at *
 rw [crossA_eq, crossA_eq, crossA_eq]
 generalize opG m l g 0 = o0 at *
 generalize opG m l g 1 = o1 at *
 generalize opG m l g 2 = o2 at *
 generalize opG m l g 3 = o3 at *
 have e1 : A ++ catO [o0, o1, o2, o3] ++ C = (A ++ catO [o0]) ++ [o1, o2].filterMap id ++ (catO [o3] ++ C) := by
  rw [show [o0, o1, o2, o3] = [o0] ++ ([o1, o2] ++ [o3]) from rfl, catO_app, catO_app]; simp only [catO, List.append_assoc]
 have e2 : (A ++ catO [o0]) ++ [o2, o1].filterMap id ++ (catO [o3] ++ C) = A ++ [o0, o2].filterMap id ++ (catO [o1, o3] ++ C) := by
  rw [show [o0, o2] = [o0] ++ [o2] from rfl, show [o2, o1] = [o2] ++ [o1] from rfl, show [o1, o3] = [o1] ++ [o3] from rfl, catO_app, ]
  simp only [catO, List.filterMap_append, List.append_assoc]
 have e3 : A ++ [o2, o0].filterMap id ++ (catO [o1, o3] ++ C) = (A ++ catO [o2, o0]) ++ [o1, o3].filterMap id ++ C := by
  simp only [catO, List.append_assoc]
 rw [e1] at hn ⊢
 have g1 := cross_next (m := m) (g := g) hn
 obtain ⟨u1, h1, n1⟩ := cross_swap hn (mkX_going m g) []
 have r1 := congrArg Prod.fst h1
 rw [fold_fst] at r1
 simp only [e2] at r1 n1
 have g2 := cross_next (m := m) (g := g) n1
 obtain ⟨u2, h2, n2⟩ := cross_swap n1 (mkX_going m g) []
 have r2 := congrArg Prod.fst h2
 rw [fold_fst] at r2
 simp only [e3] at r2 n2
 have g3 := cross_next (m := m) (g := g) n2
 rw [nextC_app, nextC_app, r1, r2]
 exact ⟨g1, g2, g3⟩
theorem crossL_next (m : MacV) (l : List Int) : ∀ (gs : List Int) (A : List Int), (A ++ gs.flatMap (orderG m l)).Nodup → nextC (A ++ gs.flatMap (orderG m l)) (gs.flatMap (crossG m l))
 | [], A, hn => trivial
 | g :: gs, A, hn => by
   simp only [List.flatMap_cons] at hn ⊢
   rw [← List.append_assoc] at hn ⊢
   rw [nextC_app]
   refine ⟨crossG_next m l g hn, ?_⟩
   obtain ⟨u1, h1, n1⟩ := crossG_row m l g hn []
   have r1 := congrArg Prod.fst h1
   rw [fold_fst] at r1
   rw [r1]
   exact crossL_next m l gs (A ++ afterG m l g) n1
theorem crossM_next (m : MacV) (l : List Int) : nextC (orderM m l) (crossM m l) := by
 have := crossL_next m l (gearsL m) [] (by simpa [orderM] using orderM_nodup m l)
 simpa [crossM, orderM] using this
theorem nextC_at {cs : List CrM} {r : List Int} (h : nextC r cs) {k : Nat} (hk : k < cs.length) : ∃ i : Nat, idxO ((cs.take k).foldl rowC r) (cs[k].going) = some (i : Int) ∧ i + 1 < ((cs.take k).foldl rowC r).length ∧ atD 0 ((cs.take k).foldl rowC r) ((i : Int) + 1) = otherC cs[k] := by
 have e : cs = cs.take k ++ cs[k] :: cs.drop (k + 1) := by
  conv => lhs; rw [← List.take_append_drop k cs]
  rw [List.drop_eq_getElem_cons hk]
 rw [e, nextC_app] at h
 exact h.2.1
theorem crossG_few (m : MacV) (l : List Int) (g : Int) : (crossG m l g).length ≤ (orderG m l g).length := by
 rw [crossG_eq, orderG_eq, crossA_eq, crossA_eq, crossA_eq]
 generalize opG m l g 0 = o0
 generalize opG m l g 1 = o1
 generalize opG m l g 2 = o2
 generalize opG m l g 3 = o3
 cases o0 <;> cases o1 <;> cases o2 <;> cases o3 <;> simp [bothX, catO]
theorem crossM_few (m : MacV) (l : List Int) : (crossM m l).length ≤ (orderM m l).length := by
 unfold crossM orderM
 generalize gearsL m = gs
 induction gs with
 | nil => simp
 | cons g gs ih =>
  rw [List.flatMap_cons, List.flatMap_cons, List.length_append, List.length_append]
  have := crossG_few m l g
  omega
theorem wvM_few {m : MacV} {l : List Int} (h : LoadOk m l) : ∀ k : Nat, (wvM m l k).2.length ≤ l.length * k
 | 0 => by simp [wvM]
 | k + 1 => by
   have ih := wvM_few h k
   have hlo := h.ok.lo
   have a := crossM_few m (atL m l k)
   rw [orderM_length (by omega) (atL_rng h.rng k) (atL_nodup h.rng h.nodup k), atL_len] at a
   rw [wvM, weaveS_len, Nat.mul_succ]
   omega
/-- what a word of few carriers comes to. -/
theorem weaveE_ok {m : MacV} {l : List Int} (hz : loadE m l = 0) (hr : m.ring = false) (hl : l.length ≤ 12) {n : Int} (h0 : 0 ≤ n) (h1 : n ≤ 1000) (hm : meetsM m l n = false) : weaveE m l n = 0 := by
 unfold weaveE
 rw [if_neg (by simp [hz]), hr, if_neg (by decide), if_neg (by omega), if_neg (by omega), hm]
 rfl
/-- no meeting later on. -/
theorem meets_later {m : MacV} {l : List Int} (h : LoadOk m l) {a b : Nat} {n : Int} (hm : meetsM m l n = false) (hab : ((a + b : Nat) : Int) ≤ n) : meetsM m (atL m l a) b = false := by
 cases hq : meetsM m (atL m l a) b with
 | false => rfl
 | true =>
  exfalso
  unfold meetsM at hq
  cases hf : firstM m (atL m l a) with
  | none => rw [hf] at hq; cases hq
  | some v =>
   rw [hf] at hq
   simp only [decide_eq_true_eq] at hq
   obtain ⟨p, hp, e⟩ := first_is hf
   have hs := meetM_spec m p.1 p.2
   rw [e] at hs
   obtain ⟨n1, pl⟩ := v
   have hno := no_meets (l := l) hm (k := n1 + a) (by dsimp only at hq; omega)
   have ne : p.1 ≠ p.2 := by
    obtain ⟨i, j, hji, hi, rfl⟩ := (pairsTo_mem (Nat.le_refl _)).1 hp
    exact fun e2 => nodup_ne (atL_nodup h.rng h.nodup a) hji hi e2.symm
   obtain ⟨q, hqm, hpq⟩ := pairsTo_map.1 (show p ∈ pairsTo (l.map fun s => itM m s a) (l.map fun s => itM m s a).length from hp)
   obtain ⟨i, j, hji, hi, hqe⟩ := (pairsTo_mem (Nat.le_refl _)).1 hqm
   have m1 : q.1 ∈ l := by rw [hqe]; exact at_memI hi
   have m2 : q.2 ∈ l := by rw [hqe]; exact at_memI (by omega)
   have e1 : p.1 = itM m q.1 a := by rw [hpq]
   have e2 : p.2 = itM m q.2 a := by rw [hpq]
   have hh := hno (itM m q.1 (n1 + a)) (List.mem_map.2 ⟨_, m1, rfl⟩) (itM m q.2 (n1 + a)) (List.mem_map.2 ⟨_, m2, rfl⟩) (fun e3 => by
    refine ne ?_
    rw [e1, e2]
    have := itM_inj (h.rng _ m1).1 (h.rng _ m1).2 (h.rng _ m2).1 (h.rng _ m2).2 (n1 + a) e3
    rw [this])
   have s1 := hs.1
   rw [e1, e2, itM_add, itM_add, hh] at s1
   cases s1
theorem fold_pre : ∀ (cs : List CrM) (r a o : List Int), cs.foldl weaveC (r, a ++ o) = ((cs.foldl weaveC (r, o)).1, a ++ (cs.foldl weaveC (r, o)).2)
 | [], r, a, o => rfl
 | c :: cs, r, a, o => by
   rw [List.foldl_cons, List.foldl_cons]
   have e : weaveC (r, a ++ o) c = ((weaveC (r, o) c).1, a ++ (weaveC (r, o) c).2) := by unfold weaveC; simp
   rw [e]
   exact fold_pre cs _ a _
theorem wv_two {m : MacV} {l : List Int} (hr : m.ring = false) (h : LoadOk m l) {a : Nat} {n : Int} (hm : meetsM m l n = false) (ha : (a : Int) ≤ n) : ∀ b : Nat, wvM m l (a + b) = ((wvM m (atL m l a) b).1, (wvM m l a).2 ++ (wvM m (atL m l a) b).2)
 | 0 => by
   show wvM m l a = (orderM m (atL m l a), (wvM m l a).2 ++ [])
   rw [List.append_nil, ← wvM_row hr h.rng hm a ha]
 | b + 1 => by
   have ih := wv_two hr h hm ha b
   rw [show a + (b + 1) = (a + b) + 1 by omega, wvM, wvM, ih, atL_add, Nat.add_comm b a]
   unfold weaveS
   exact fold_pre _ _ _ _
theorem wrd_two {m : MacV} {l : List Int} (hr : m.ring = false) (h : LoadOk m l) {a b : Nat} (hm : meetsM m l ((a + b : Nat) : Int) = false) : wrdL m l ((a + b : Nat) : Int) = wrdL m l (a : Int) ++ wrdL m (atL m l a) (b : Int) := by
 unfold wrdL
 simp only [Int.toNat_natCast]
 rw [wv_two hr h hm (by omega)]

/-- the state after some crossings of a step. -/
noncomputable def stC (m : MacV) (l : List Int) (k i : Nat) : List Int × List Int := ((crossM m (atL m l k)).take i).foldl weaveC (wvM m l k)
theorem stC_last (m : MacV) (l : List Int) (k : Nat) : stC m l k (crossM m (atL m l k)).length = wvM m l (k + 1) := by
 unfold stC
 rw [List.take_length]; rfl
theorem fold_post : ∀ (cs : List CrM) (st : List Int × List Int), ∃ v, (cs.foldl weaveC st).2 = st.2 ++ v
 | [], st => ⟨[], by simp⟩
 | c :: cs, st => by
   rw [List.foldl_cons]
   obtain ⟨v, hv⟩ := fold_post cs (weaveC st c)
   refine ⟨letterC st.1 c :: v, ?_⟩
   rw [hv]; simp [weaveC]
theorem wvM_post (m : MacV) (l : List Int) : ∀ {j k : Nat}, j ≤ k → ∃ v, (wvM m l k).2 = (wvM m l j).2 ++ v := by
 intro j k hjk
 induction hjk with
 | refl => exact ⟨[], by simp⟩
 | step _ ih =>
  rename_i q _
  obtain ⟨v, hv⟩ := ih
  obtain ⟨u, hu⟩ := fold_post (crossM m (atL m l q)) (wvM m l q)
  exact ⟨v ++ u, by rw [wvM, weaveS, hu, hv, List.append_assoc]⟩
theorem stC_post (m : MacV) (l : List Int) {k i N : Nat} (hk : k < N) : ∃ v, (wvM m l N).2 = (stC m l k i).2 ++ v := by
 obtain ⟨v, hv⟩ := wvM_post m l (j := k + 1) (k := N) hk
 obtain ⟨u, hu⟩ := fold_post ((crossM m (atL m l k)).drop i) (stC m l k i)
 refine ⟨u ++ v, ?_⟩
 have e : ((crossM m (atL m l k)).drop i).foldl weaveC (stC m l k i) = wvM m l (k + 1) := by
  unfold stC
  rw [← List.foldl_append, List.take_append_drop]; rfl
 rw [e] at hu
 rw [hv, hu, List.append_assoc]
/-- one letter of a word. -/
theorem stC_step {m : MacV} {l : List Int} (hr : m.ring = false) (h : LoadOk m l) {n : Int} (hm : meetsM m l n = false) {k i N : Nat} (hkn : (k : Int) ≤ n) (hk : k < N) (hi : i < (crossM m (atL m l k)).length) :
  ∃ p : Nat, p + 1 < (stC m l k i).1.length ∧ stC m l k (i + 1) = (swpL (stC m l k i).1 p, (stC m l k i).2 ++ [atD 0 (wvM m l N).2 (stC m l k i).2.length]) ∧
   (stC m l k i).2.length < (wvM m l N).2.length ∧
   ((atD 0 (wvM m l N).2 (stC m l k i).2.length = (p : Int) + 1 ∧ (atD ⟨0, 0, 0, 0⟩ (crossM m (atL m l k)) i).over = atD 0 (stC m l k i).1 p ∧ (atD ⟨0, 0, 0, 0⟩ (crossM m (atL m l k)) i).under = atD 0 (stC m l k i).1 ((p : Int) + 1)) ∨
    (atD 0 (wvM m l N).2 (stC m l k i).2.length = -(p : Int) - 1 ∧ (atD ⟨0, 0, 0, 0⟩ (crossM m (atL m l k)) i).over = atD 0 (stC m l k i).1 ((p : Int) + 1) ∧ (atD ⟨0, 0, 0, 0⟩ (crossM m (atL m l k)) i).under = atD 0 (stC m l k i).1 p)) := by
 obtain ⟨cs, hcs⟩ : ∃ cs, cs = crossM m (atL m l k) := ⟨_, rfl⟩
 have hnx := crossM_next m (atL m l k)
 rw [← wvM_row hr h.rng hm k hkn] at hnx
 have hok := crossM_ok m (atL m l k)
 rw [← hcs] at hi hnx hok
 obtain ⟨p, hp, hp1, hp2⟩ := nextC_at hnx hi
 have hst : (stC m l k i).1 = (cs.take i).foldl rowC (wvM m l k).1 := by
  unfold stC
  rw [← hcs]
  have : wvM m l k = ((wvM m l k).1, (wvM m l k).2) := rfl
  rw [this, fold_fst]
 rw [← hst] at hp hp1 hp2
 have ec : atD (⟨0, 0, 0, 0⟩ : CrM) cs i = cs[i] := by simp [atD, hi]
 have hstep : stC m l k (i + 1) = weaveC (stC m l k i) cs[i] := by
  unfold stC
  rw [← hcs, foldC_step hi, ec]
 rw [weaveC_at hp] at hstep
 obtain ⟨v, hv⟩ := stC_post m l (k := k) (i := i + 1) (N := N) hk
 rw [hstep] at hv
 dsimp only at hv
 have hat : atD 0 (wvM m l N).2 (stC m l k i).2.length = if cs[i].over = cs[i].going then (p : Int) + 1 else -(p : Int) - 1 := by
  unfold atD
  rw [hv]
  simp only [Int.toNat_natCast, List.getD_eq_getElem?_getD]
  rw [List.append_assoc, List.getElem?_append_right (Nat.le_refl _), Nat.sub_self]
  simp
 have hgo : atD 0 (stC m l k i).1 (p : Int) = cs[i].going := by
  obtain ⟨a, b, c⟩ := idxO_some hp
  unfold atD
  rw [List.getD_eq_getElem?_getD, c]; rfl
 refine ⟨p, hp1, by rw [hstep, hat], by rw [hv]; simp, ?_⟩
 rw [← hcs, ec, hat, hgo, hp2]
 rcases hok cs[i] (List.getElem_mem hi) with ⟨a, b⟩ | ⟨a, b⟩
 ·refine .inl ⟨if_pos a, a, ?_⟩
  unfold otherC; rw [if_pos a]
 ·refine .inr ⟨if_neg b, ?_, a⟩
  unfold otherC; rw [if_neg b]
end Go.Proofs.YtglpfpdomnllkaaGreat
