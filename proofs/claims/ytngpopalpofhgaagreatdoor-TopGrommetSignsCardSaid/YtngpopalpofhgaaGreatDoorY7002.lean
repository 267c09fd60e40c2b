/- Contracts and plain facts that the claim uses (LtA GsP NfP NfR CrP BrB RlD MxA RtM SpB LkA BpA). Conditions: as each one states. -/
import Derived.RangeFuncNested
import Derived.RangeFuncBound
import Derived.RangeFuncCalls
import Derived.RangeFuncLeaves
import Derived.RangeFuncFrom
import Derived.Shelf.Abstract
import Derived.Shelf.RegionOpen
import Derived.WalkKit
import Derived.OwnWalkIn
import Derived.TacticsInMore
import Derived.LoopNIn
import Derived.LoopIn
import Derived.Test.YtngpopalpofhgaaGreatDoorProg
import Derived.WalkSpells
import Derived.Maps.AppendAt
import Derived.Deep.Quiet
import Derived.Maps.Own
import Derived.Maps.OwnSet
import Derived.Maps.Views
import Derived.WalkLawsBesides
import Derived.Laws.EntriesVeiled
import Derived.Deep.QuietTactic
import Derived.BigQuiet
import Derived.StillTail
import Derived.Laws.Tables
import Derived.Deep.RegionHeld3
import Derived.Deep.AppendLies
import Derived.Deep.RegionHeldLaw
import Derived.Deep.RegionLaw
import Derived.IntWalk
import Derived.Shelf.Strings.Trim
import Derived.Shelf.Strings.SlTrimAscii
import Derived.Shelf.Strings.Repeat
import Derived.Shelf.Strings.OnBuilder
import Derived.Shelf.Strconv.Itoa1
import Derived.Shelf.Strconv.Itoa3
import Derived.Shelf.LaysM
import Derived.Ground.Names2Prog
import Derived.Laws.CopyOwn
import Derived.BigRegion
import Derived.ChangeAlike
import Derived.Shelf.Bits.Mul64
import Derived.Lib.OthersKept
import Derived.Lib.ItoaLen
import Derived.Lib.ItoaMem
import Derived.Sort.LoopGhostIn
import Derived.Maps.RangeWalk
import Derived.Sort.QuietThIn
import Derived.Maps.Ext
import Derived.Deep.LoopGhost
import Derived.Test.YtngpopalpofhgaaGreatDoorXz01
import Derived.Test.YtngpopalpofhgaaGreatDoorXz02
import Derived.Test.YtngpopalpofhgaaGreatDoorXz03
import Derived.Test.YtngpopalpofhgaaGreatDoorXz04
import Derived.Test.YtngpopalpofhgaaGreatDoorXz05
import Derived.Test.YtngpopalpofhgaaGreatDoorXz06
import Derived.Test.YtngpopalpofhgaaGreatDoorXz07
import Derived.Test.YtngpopalpofhgaaGreatDoorXz08
import Derived.Test.YtngpopalpofhgaaGreatDoorXz09
import Derived.Test.YtngpopalpofhgaaGreatDoorY7001
set_option linter.all false

namespace Go.Proofs.YtngpopalpofhgaaGreatDoor
open Go.RowKit Go.Maps
set_option maxRecDepth 100000

def pairsOk (m : Int) (cr : List (Int × Int)) : Prop := ∀ p ∈ cr, 1 ≤ p.1 ∧ p.1 ≤ m ∧ 1 ≤ p.2 ∧ p.2 ≤ m ∧ p.1 ≠ p.2
def injS (m : Int) (st : List Int) : Prop := (∀ (i j : Nat) (hi : i < st.length) (hj : j < st.length), st[i] = st[j] → i = j) ∧ ∀ (i : Nat) (hi : i < st.length), 1 ≤ st[i] ∧ st[i] ≤ m
theorem atD_get {st : List Int} {k : Int} {b : Nat} (h : k = b) (hb : b < st.length) : atD 0 st k = st[b] := by
 subst h; simp [atD, hb]
theorem injS_swap {m : Int} {st : List Int} (h : injS m st) {k : Int} (h1 : 1 ≤ k) (h2 : k < st.length) : injS m (swapL st k) := by
 obtain ⟨b, hb⟩ : ∃ b : Nat, b = k.toNat := ⟨_, rfl⟩
 obtain ⟨a, ha⟩ : ∃ a : Nat, a = (k - 1).toNat := ⟨_, rfl⟩
 have ea : atD 0 st (k - 1) = st[a]'(by omega) := by
  exact atD_get (by omega) _
 have eb : atD 0 st k = st[b]'(by omega) := by
  exact atD_get (by omega) _
 have e : swapL st k = (st.set a (st[b]'(by omega))).set b (st[a]'(by omega)) := by unfold swapL; rw [ea, eb, ← ha, ← hb]
 rw [e]
 have hab : a ≠ b := by omega
 refine ⟨fun i j hi hj he => ?_, fun i hi => ?_⟩
 ·simp only [List.length_set] at hi hj
  simp only [List.getElem_set] at he
  split at he <;> split at he <;> (try split at he) <;> (try split at he) <;> first
   | omega
   | (have := h.1 _ _ _ _ he; omega)
 ·simp only [List.length_set] at hi
  simp only [List.getElem_set]
  split
  ·exact h.2 _ _
  ·split
   ·exact h.2 _ _
   ·exact h.2 _ _
theorem crossOf_ok {m : Int} {st : List Int} (h : injS m st) {x : Int} (h1 : 1 ≤ absI x) (h2 : absI x < st.length) : 1 ≤ (crossOf st x).1 ∧ (crossOf st x).1 ≤ m ∧ 1 ≤ (crossOf st x).2 ∧ (crossOf st x).2 ≤ m ∧ (crossOf st x).1 ≠ (crossOf st x).2 := by
 obtain ⟨k, hk⟩ : ∃ k, k = absI x := ⟨_, rfl⟩
 rw [← hk] at h1 h2
 obtain ⟨b, hb⟩ : ∃ b : Nat, b = k.toNat := ⟨_, rfl⟩
 obtain ⟨a, ha⟩ : ∃ a : Nat, a = (k - 1).toNat := ⟨_, rfl⟩
 have ea : atD 0 st (k - 1) = st[a]'(by omega) := by
  exact atD_get (by omega) _
 have eb : atD 0 st k = st[b]'(by omega) := by
  exact atD_get (by omega) _
 have := h.2 a (by omega)
 have := h.2 b (by omega)
 have hne : st[a]'(by omega) ≠ st[b]'(by omega) := fun e => by have := h.1 _ _ _ _ e; omega
 unfold crossOf
 rw [← hk]
 split
 ·simp only [ea, eb]; exact ⟨by omega, by omega, by omega, by omega, fun e => hne e.symm⟩
 ·simp only [ea, eb]; exact ⟨by omega, by omega, by omega, by omega, hne⟩
theorem rowGo_ok {m : Int} {n : Nat} : ∀ (ws : List Int) (st : List Int) (cr : List (Int × Int)), (∀ x ∈ ws, 1 ≤ absI x ∧ absI x < n) → st.length = n → injS m st → pairsOk m cr → pairsOk m (rowGo st cr ws).2
 | [], _, _, _, _, _, h => h
 | x :: r, st, cr, hf, hl, hi, hc => by
   rw [rowGo]
   have hx := hf x (by simp)
   refine rowGo_ok r _ _ (fun y hy => hf y (by simp [hy])) (by rw [swapL_len, hl]) (injS_swap hi hx.1 (by omega)) ?_
   intro p hp
   rcases List.mem_append.1 hp with h | h
   · exact hc p h
   · rw [List.mem_singleton] at h
     subst h
     exact crossOf_ok hi hx.1 (by omega)
theorem injS_start (n : Nat) : injS n (startL n) := by
 constructor
 ·intro i j hi hj h
  simp [startL] at h
  omega
 ·intro i hi
  simp [startL] at hi ⊢
  omega
theorem crossL_ok (n : Int) (ws : List Int) : pairsOk n (crossL n ws) := by
 unfold crossL
 split
 ·next h =>
  have h1 := wordE_fits h
  have hf := wordE_fitsW h
  have : ((n.toNat : Nat) : Int) = n := by omega
  rw [← this]
  simp only [Int.toNat_natCast]
  exact rowGo_ok ws _ _ (fun x hx => (hf x hx).2.2) (startL_len _) (injS_start _) (fun p hp => by cases hp)
 ·exact fun p hp => by cases hp

theorem rowGo_cl : ∀ (ws st : List Int) (cr : List (Int × Int)), (rowGo st cr ws).2.length = cr.length + ws.length
 | [], _, cr => by simp [rowGo]
 | x :: r, st, cr => by rw [rowGo, rowGo_cl r]; simp; omega
theorem crossL_len (n : Int) (ws : List Int) : (crossL n ws).length ≤ 200 := by
 unfold crossL
 split
 ·next h =>
  have := (wordE_fits h).2.2.1
  rw [rowL, rowGo_cl]; simpa using this
 ·simp
/-- what Alternates keeps. -/
def minZ (a s : Int) : Int := if a = 0 ∨ s < a then s else a
def altLeast (f : Int → Int) (least : Int) (p : Int × Int) : Int := (fun l => if f p.2 = -1 then minZ l p.2 else l) (if f p.1 = 1 then minZ least p.1 else least)
def altLast (f : Int → Int) (p : Int × Int) : Int → Int := fun s => if s = p.1 then 1 else if s = p.2 then -1 else f s
def altGo : (Int → Int) → Int → List (Int × Int) → Int
 | _, least, [] => least
 | f, least, p :: r => altGo (altLast f p) (altLeast f least p) r

def lastAt (f : Int → Int) (o u : Int) (lo lu : Bool) : Int → Int := fun s => if s = o ∧ lo = false then 1 else if s = u ∧ lu = false then -1 else f s
def leastAt (f : Int → Int) (least o u : Int) (lo lu : Bool) : Int := (fun l => if lu = false ∧ f u = -1 then minZ l u else l) (if lo = false ∧ f o = 1 then minZ least o else least)
theorem lastAt_start (f : Int → Int) (o u : Int) : lastAt f o u true true = f := by funext s; simp [lastAt]
theorem leastAt_start (f : Int → Int) (least o u : Int) : leastAt f least o u true true = least := by simp [leastAt]
theorem lastAt_end (f : Int → Int) (o u : Int) : lastAt f o u false false = altLast f (o, u) := by funext s; simp [lastAt, altLast]
theorem leastAt_end (f : Int → Int) (least o u : Int) : leastAt f least o u false false = altLeast f least (o, u) := by simp [leastAt, altLeast]
theorem alt_step {f : Int → Int} {least o u x c : Int} {lo lu : Bool} (hne : o ≠ u) (ho : 1 ≤ o) (hu : 1 ≤ u) (h : x = o ∧ c = 1 ∧ lo = true ∨ x = u ∧ c = -1 ∧ lu = true) :
   (fun s => if s = x then c else lastAt f o u lo lu s) = lastAt f o u (lo && !decide (o = x)) (lu && !decide (u = x)) ∧
   (if lastAt f o u lo lu x = c then minZ (leastAt f least o u lo lu) x else leastAt f least o u lo lu) = leastAt f least o u (lo && !decide (o = x)) (lu && !decide (u = x)) := by
 have hne' : u ≠ o := fun e => hne e.symm
 rcases h with ⟨rfl, rfl, rfl⟩ | ⟨rfl, rfl, rfl⟩
 ·refine ⟨?_, ?_⟩
  ·funext s
   by_cases e1 : s = x
   ·simp [lastAt, e1]
   ·simp [lastAt, e1, hne']
  ·cases lu <;> by_cases e1 : f x = 1 <;> by_cases e2 : f u = -1 <;> simp [lastAt, leastAt, hne', hne, e1, e2] <;> (unfold minZ; split <;> split <;> (try split) <;> (try split) <;> omega)
 ·refine ⟨?_, ?_⟩
  ·funext s
   by_cases e1 : s = x
   ·simp [lastAt, e1, hne']
   ·simp [lastAt, e1, hne]
  ·cases lo <;> by_cases e1 : f o = 1 <;> by_cases e2 : f x = -1 <;> simp [lastAt, leastAt, hne', hne, e1, e2]
/-- a map of two entries. -/
def TwoM (w : World) (b n : Nat) (o u : Int) : Prop :=
 ∃ D : DataW Unit, w.ownsMap Tryz.prog 3 (plainElem Tryz.prog 3) b n D ∧ (∀ k z, (D.atKey (.int .i64 k) z) = if k = o then .lit (.int .i64 1) else if k = u then .lit (.int .i64 (-1)) else z) ∧ ∀ k, has D (.int .i64 k) = (decide (k = o) || decide (k = u))
section
variable {P : Program} {ops : Array Oper} {Q : Exit → Act → World → Prop} {md : Region.Mode} {C : World → Prop}
theorem wpOp_ins {i : Nat} {d : Option Tmp} {m x y : Operand} {ty : TypeId} {p : String} {af : Array Edge} {b n : Nat} {k v : Int} {a : Act} {w : World} {D : DataW Unit} (hi : ops[i]? = some ⟨d, .insert 88 m x y, ty, p, af, none⟩)
   (hm : a.eval m = .map (some b)) (hx : a.eval x = .int .i64 k) (hy : a.eval y = .int .i64 v) (h : w.ownsMap Tryz.prog 3 (plainElem Tryz.prog 3) b n D) (hk : InI k) (hv : InI v) (hn : n < maxLen) {K : Act → World → Prop}
   (hK : ∀ w', w'.ownsMap Tryz.prog 3 (plainElem Tryz.prog 3) b (n + 1) (D.put (.int .i64 k) (.lit (.int .i64 v))) → w.grownBy w' (some b) → K (a.put d undef) w') : wpOp Tryz.prog ops Q i K a w := by
 obtain ⟨w', hrun, ho, hg⟩ := h.update keyI Tryz.underlying88 hn (keyOfI hk) (plainElem_int Tryz.underlying3 hv.wf)
 unfold wpOp
 simp only [hi]
 have hw : Region.wanted (⟨d, .insert 88 m x y, ty, p, af, none⟩ : Oper) (yielded ops a.tmps) = true := rfl
 rw [if_pos hw]
 refine .inl ?_
 unfold Oper.wp
 simp [execOp, hm, hx, hy, hrun, Result.andThen]
 exact hK _ ho hg
end
theorem noPanic_normal {Q : Exit → Act → World → Prop} {a : Act} {w : World} : NoPanic Q .normal a w = Q .normal a w := rfl
theorem alt_drop {f : Int → Int} {least o u : Int} {cr : List (Int × Int)} {k : Nat} (hk : k < cr.length) (h : atD (0, 0) cr k = (o, u)) : altGo f least (cr.drop k) = altGo (lastAt f o u false false) (leastAt f least o u false false) (cr.drop (k + 1)) := by
 have e2 : atD (0, 0) cr k = cr[k] := by simp [atD, hk]
 rw [List.drop_eq_getElem_cons hk, altGo, ← e2, h, lastAt_end, leastAt_end]
theorem yieldsC_load {P : Program} {ops : Array Oper} {w : World} {d : Tmp} {e : TypeId} {s : Operand} {ty : TypeId} {p : String} {af : Array Edge} {g : Option (Nat × Bool)} {a : Act} {b o : Nat} {cs : Array Value} {T : TypeId} {fr : Nat × Nat} {v : Value} (hF : Flat P e)
   (hb : w.heap[b]? = some (.cells cs T fr)) (hv : cs[o]? = some v) (hs : a.eval s = .pointer (some ⟨b, o, none⟩)) (hg : Region.wanted (⟨some d, .load e s, ty, p, af, g⟩ : Oper) (yielded ops a.tmps) = true) : YieldsC P ops (Below w.heap.size w) ⟨some d, .load e s, ty, p, af, g⟩ v a := by
 refine .inl ⟨hg, fun w' hw' => ?_⟩
 have hc : w'.cell? ⟨b, o, none⟩ = some v := by simp [World.cell?, hw'.block b (Array.getElem?_eq_some_iff.1 hb).1, hb, hv]
 simp [execOp, hs, run_loadAt_cell w' hF hc, Result.andThen]
theorem bothK {K : World → Prop} {F : World → Prop} {p q : Prop} (h : (∀ V, F V → K V) → p ∧ q) (k : ∀ V, F V → K V) : p ∧ q := h k
theorem two_of {w : World} {b n : Nat} {o u : Int} {D : DataW Unit} (hne : o ≠ u) (ho : InI o) (hu : InI u) (hD : D = ((DataW.map []).put (.int .i64 o) (.lit (.int .i64 1))).put (.int .i64 u) (.lit (.int .i64 (-1))) ∨ D = ((DataW.map []).put (.int .i64 u) (.lit (.int .i64 (-1)))).put (.int .i64 o) (.lit (.int .i64 1)))
   (h : w.ownsMap Tryz.prog 3 (plainElem Tryz.prog 3) b n D) : TwoM w b n o u := by
 have ko := keyI.key (keyOfI ho)
 have ku := keyI.key (keyOfI hu)
 have m0 : IsMap (DataW.map [] : DataW Unit) := ⟨_, rfl⟩
 have m1 := fun (k : Int) (v : Int) => (⟨_, rfl⟩ : IsMap ((DataW.map [] : DataW Unit).put (.int .i64 k) (.lit (.int .i64 v))))
 have hn : ∀ {k k' : Int}, k' ≠ k → Lit.int .i64 k' ≠ Lit.int .i64 k := fun h e => h (by simpa using e)
 refine ⟨D, h, fun k z => ?_, fun k => ?_⟩
 ·rcases hD with rfl | rfl
  ·by_cases e1 : k = o
   ·subst e1
    rw [atKey_put_other (hn hne), atKey_put_same m0 ko, if_pos rfl]
   ·by_cases e2 : k = u
    ·subst e2
     rw [atKey_put_same (m1 _ _) ku, if_neg e1, if_pos rfl]
    ·rw [atKey_put_other (hn e2), atKey_put_other (hn e1), if_neg e1, if_neg e2]; rfl
  ·by_cases e1 : k = o
   ·subst e1
    rw [atKey_put_same (m1 _ _) ko, if_pos rfl]
   ·by_cases e2 : k = u
    ·subst e2
     rw [atKey_put_other (hn e1), atKey_put_same m0 ku, if_neg e1, if_pos rfl]
    ·rw [atKey_put_other (hn e1), atKey_put_other (hn e2), if_neg e1, if_neg e2]; rfl
 ·rcases hD with rfl | rfl
  ·by_cases e1 : k = o
   ·subst e1
    rw [has_put_other (hn hne), has_put_same m0 ko]; simp
   ·by_cases e2 : k = u
    ·subst e2
     rw [has_put_same (m1 _ _) ku]; simp
    ·rw [has_put_other (hn e2), has_put_other (hn e1)]; simp [e1, e2]; rfl
  ·by_cases e1 : k = o
   ·subst e1
    rw [has_put_same (m1 _ _) ko]; simp
   ·by_cases e2 : k = u
    ·subst e2
     rw [has_put_other (hn e1), has_put_same m0 ku]; simp
    ·rw [has_put_other (hn e1), has_put_other (hn e2)]; simp [e1, e2]; rfl
end Go.Proofs.YtngpopalpofhgaaGreatDoor

namespace Go.Proofs.YtngpopalpofhgaaGreatDoor
open Go.RowKit Go.Maps
set_option maxHeartbeats 1000000
set_option maxRecDepth 100000

theorem E_cross : ETy Tryz.prog 25 42 (.agg #[.int .i64 0, .int .i64 0]) 2 16 := ⟨Tryz.underlying25, by kernel_rfl, rfl, by decide⟩
theorem F_cross : Aggr Tryz.prog 42 := ⟨_, Tryz.underlying42, rfl⟩
def altB (n : Int) (ws : List Int) : Int := if wordE n ws = 0 then altGo (fun _ => 0) 0 (crossL n ws) else 0

theorem Alternates_any (n : Int) (a : Option Addr) (cap : Nat) (l : List Int) (w : World) (hS : Ints w a cap l) (hsm : l.length ≤ 1048576) :
  Calls Tryz.prog 14 #[.int .i64 n, .slice a l.length cap] w fun r w' => r = .returned (.tuple #[.int .i64 (altB n l), .int .i64 (wordE n l)]) ∧ Below w.heap.size w w' := by
 have hmm := @run_makeMap Tryz.prog
 have hC := Crosses_any n a cap l w hS hsm
 by_cases h : wordE n l = 0
 ·have eB : altB n l = altGo (fun _ => 0) 0 (crossL n l) := if_pos h
  have hok := crossL_ok n l
  have hf := wordE_fits h
  have hn : n ≤ 12 := hf.2.1
  rw [eB, h]
  rw [h] at hC
  have hlen := crossL_len n l
  obtain ⟨cr, hcr⟩ : ∃ cr, cr = crossL n l := ⟨_, rfl⟩
  rw [← hcr] at hC hok hlen ⊢
  have HC := hid hC; clear hC h eB hf hcr
  go_enter Tryz.func14, Tryz.ntmps14
  go_wp2_with fail
  refine HC.out.mono ?_
  rintro e w1 ⟨a1, cap1, rfl, hP, _, hb1⟩
  have hcap := hP.le
  have hmx := hP.max
  go_wp2_with fail
  go_loopw [26, 9, 11, 12, 13] (fun i v9 _ _ _ wr => ∃ (k : Nat) (least : Int) (f : Int → Int), k ≤ cr.length ∧ i = .int .i64 k ∧ v9 = .int .i64 least ∧ altGo f least (cr.drop k) = altGo (fun _ => 0) 0 cr ∧ Below w1.heap.size w1 wr ∧ MapI wr w1.heap.size (2 * k) f) (fun i _ _ _ _ _ => cr.length - (intOf i).toNat)
  case atStart => exact ⟨0, 0, _, by omega, rfl, rfl, rfl, bal (Below.refl _ _) _, mapI_made w1⟩
  case round =>
   obtain ⟨k, least, f, hk, rfl, rfl, hgo, hbr, hmr⟩ := hrel
   have hPr := hP.below hbr
   by_cases hkl : k < cr.length
   ·have hpk := hok (atD (0, 0) cr k) (by simp [atD, hkl])
    obtain ⟨o, u, hou⟩ : ∃ o u, atD (0, 0) cr k = (o, u) := ⟨_, _, rfl⟩
    rw [hou] at hpk
    simp only at hpk
    have HK := hid hpk; clear hpk
    have HOU := hid hou; clear hou
    have HGO := hid hgo; clear hgo
    go_wp2_with (with_reducible refine wpList_idxS _ (0, 0) E_cross F_cross cPair1 wU wU (hPr) oD oD (fun _ => wU) (fun _ => ?_)); (try simp only [cPair, HOU.out])
    have q := heap_alloc_new wr (.cells #[.int .i64 o, .int .i64 u] 42)
    have hmW := hmr.alloc (.cells #[.int .i64 o, .int .i64 u] 42)
    have hbW := bal hbr (.cells #[.int .i64 o, .int .i64 u] 42)
    have zB : wr.heap.size < (wr.alloc (.cells #[.int .i64 o, .int .i64 u] 42)).heap.size := by simp
    obtain ⟨W, hW⟩ : ∃ W, W = wr.alloc (.cells #[.int .i64 o, .int .i64 u] 42) := ⟨_, rfl⟩
    rw [← hW] at q hmW hbW zB
    simp only [← hW]
    clear hW
    refine wp_region_pure (C := Below W.heap.size W) [1, 2, 4, 5] [_, _, _, _] 5 (by simp only [List.map_cons, List.map_nil, List.getElem?_toArray]; rfl) rfl kR kR kR (Below.refl _ _).drew ?_
    refine ⟨.pointer (some ⟨wr.heap.size, 0, none⟩), .inl ⟨by with_unfolding_all rfl, fun w' _ => by go_simp⟩, ?_⟩
    go_frame
    refine ⟨.int .i64 o, yieldsC_load F_int q rfl wU wU, ?_⟩
    go_frame
    refine ⟨.pointer (some ⟨wr.heap.size, 1, none⟩), .inl ⟨by with_unfolding_all rfl, fun w' _ => by go_simp⟩, ?_⟩
    go_frame
    refine ⟨.int .i64 u, yieldsC_load F_int q rfl wU wU, ?_⟩
    go_frame
    unfold wpPure
    have zM := hmr.lt
    have hV0 : Below W.heap.size W { W with drawn := W.drawn + 1 } := (Below.refl _ _).drew
    obtain ⟨V, hV, hVz⟩ : ∃ V, V = { W with drawn := W.drawn + 1 } ∧ V.heap.size = W.heap.size := ⟨_, rfl, rfl⟩
    rw [← hV] at hV0
    rw [← hV]
    clear hV
    have hIo : InI o := by have := HK.out; unfold InI; omega
    have hIu : InI u := by have := HK.out; unfold InI; omega
    have hI1 : InI 1 := by unfold InI; omega
    have hI2 : InI (-1) := by unfold InI; omega
    refine wpAnyC_on [0] kR (by simp) ?_
    simp only [List.forall_mem_cons, List.not_mem_nil, false_implies, implies_true, and_true]
    refine wpOp_value (v := .map (some W.heap.size)) (w' := V.alloc (.map #[] 0)) (by rw [List.getElem?_toArray]; rfl) wU (by rw [← hVz]; simp [execOp, hmm, Result.andThen]) ?_
    refine ⟨hV0.alloc (by omega) _, ?_⟩
    go_frame
    have hm0 := World.ownsMap_made (H := Unit) V Tryz.prog 3 (plainElem Tryz.prog 3)
    rw [hVz] at hm0
    have hV1 : Below W.heap.size W (V.alloc (.map #[] 0)) := hV0.alloc (by omega) _
    obtain ⟨V1, hV1e, hz1⟩ : ∃ V1, V1 = V.alloc (.map #[] 0) ∧ V1.heap.size = W.heap.size + 1 := ⟨_, rfl, by simp [hVz]⟩
    rw [← hV1e] at hm0 hV1
    rw [← hV1e]
    clear hV1e
    refine wpAnyC_on [3, 6] kR (by simp) ?_
    simp only [List.forall_mem_cons, List.not_mem_nil, false_implies, implies_true, and_true]
    apply bothK (F := fun V => TwoM V W.heap.size 2 o u ∧ Below W.heap.size W V)
    case h =>
     intro key
     constructor
     ·refine wpOp_ins (by rw [List.getElem?_toArray]; rfl) wU wU (by rfl) hm0 hIo hI1 (by decide) ?_
      intro V2 hm2 hg2
      have hV2 := hV1.grown hg2 (by omega) (fun k hk => by cases hk; exact Nat.le_refl _)
      have hz2 := hg2.size
      refine ⟨hV2, ?_⟩
      refine wpAnyC_on [6] kR (by simp) ?_
      simp only [List.forall_mem_cons, List.not_mem_nil, false_implies, implies_true, and_true]
      refine wpOp_ins (by rw [List.getElem?_toArray]; rfl) wU wU (by rfl) hm2 hIu hI2 (by decide) ?_
      intro V3 hm3 hg3
      have hV3 := hV2.grown hg3 (by omega) (fun k hk => by cases hk; exact Nat.le_refl _)
      exact ⟨hV3, key V3 ⟨two_of HK.out.2.2.2.2 hIo hIu (.inl rfl) hm3, hV3⟩⟩
     ·refine wpOp_ins (by rw [List.getElem?_toArray]; rfl) wU wU (by rfl) hm0 hIu hI2 (by decide) ?_
      intro V2 hm2 hg2
      have hV2 := hV1.grown hg2 (by omega) (fun k hk => by cases hk; exact Nat.le_refl _)
      have hz2 := hg2.size
      refine ⟨hV2, ?_⟩
      refine wpAnyC_on [3] kR (by simp) ?_
      simp only [List.forall_mem_cons, List.not_mem_nil, false_implies, implies_true, and_true]
      refine wpOp_ins (by rw [List.getElem?_toArray]; rfl) wU wU (by rfl) hm2 hIo hI1 (by decide) ?_
      intro V3 hm3 hg3
      have hV3 := hV2.grown hg3 (by omega) (fun k hk => by cases hk; exact Nat.le_refl _)
      refine ⟨hV3, ?_⟩
      rw [Array.setIfInBounds_comm _ _ (by decide : (6 : Nat) ≠ 3)]
      exact key V3 ⟨two_of HK.out.2.2.2.2 hIo hIu (.inr rfl) hm3, hV3⟩
    case k =>
     rintro V3 ⟨⟨D, hown, hat, hhas⟩, hV3⟩
     refine wpAnyC_on [7] kR (by simp) ?_
     simp only [List.forall_mem_cons, List.not_mem_nil, false_implies, implies_true, and_true]
     refine wpOp_value (v := .map (some W.heap.size)) (w' := V3) (by rw [List.getElem?_toArray]; rfl) wU (by simp [execOp, Act.eval, Result.andThen]; rfl) ?_
     refine ⟨hV3, ?_⟩
     go_frame
     obtain ⟨V4, hrun, hrg, hg4, hs4⟩ := hown.range keyI Tryz.underlying88
     have hsz := hown.size_le
     have hV4 := hV3.grown hg4 hV3.size (fun k hk => by cases hk)
     have hm4 := hmW.below hV4
     have hb4 := bnext hbW hV4
     have z3 := hV3.size
     refine wpAnyC_on [8] kR (by simp) ?_
     simp only [List.forall_mem_cons, List.not_mem_nil, false_implies, implies_true, and_true]
     refine wpOp_value (v := .pointer (some ⟨V3.heap.size, 0, none⟩)) (w' := V4) (by rw [List.getElem?_toArray]; rfl) wU (by simp [execOp, Act.eval, hrun, Result.andThen]) ?_
     refine ⟨hV4, by kernel_rfl, ?_⟩
     go_frame
     rw [noPanic_normal]
     refine of_wpList_nil (P := Tryz.prog) (ops := #[]) ?_
     go_wp2_with fail
     have HAT0 := hid hat; clear hat
     have HHAS := hid hhas; clear hhas
     have hfm : ∀ (x c : Int), (∀ zd, D.atKey (.int .i64 x) zd = .lit (.int .i64 c)) → x = o ∧ c = 1 ∨ x = u ∧ c = -1 := by
      intro x c hx
      have h1 := (HAT0.out x (.lit (.bool true))).symm.trans (hx (.lit (.bool true)))
      split at h1
      ·next e => cases h1; exact .inl ⟨e, rfl⟩
      ·split at h1
       ·next e => cases h1; exact .inr ⟨e, rfl⟩
       ·cases h1
     have HF := hid hfm; clear hfm
     go_loopw [9, 12, 13] (fun v9 _ _ wq => ∃ (left : Lit → Bool) (cnt m : Nat) (nl : Int), wq.ranges Tryz.prog 3 (plainElem Tryz.prog 3) W.heap.size V3.heap.size 2 D left cnt ∧ v9 = .int .i64 nl ∧ nl = leastAt f least o u (left (.int .i64 o)) (left (.int .i64 u)) ∧ m + cnt ≤ 2 * k + 2 ∧ Below w1.heap.size w1 wq ∧ MapI wq w1.heap.size m (lastAt f o u (left (.int .i64 o)) (left (.int .i64 u)))) (fun _ _ _ wq => wq.rangeLeft W.heap.size V3.heap.size)
     case atStart =>
      refine ⟨_, _, 2 * k, least, hrg, rfl, ?_, by omega, hb4, ?_⟩
      ·rw [HHAS.out, HHAS.out]; simp [leastAt_start]
      ·rw [HHAS.out, HHAS.out]; simpa [lastAt_start] using hm4
     case round =>
      obtain ⟨left, cnt, m, nl, hrg, rfl, hnl, hmc, hbq, hmq⟩ := hrel
      have HNL := hid hnl; clear hnl
      go_wp2_with (first | (at_next; refine wpList_next_ranges_ii _ rfl _ rfl 3 3 .i64 .i64 keyI Tryz.underlying3 Tryz.underlying3 W.heap.size V3.heap.size 2 _ _ _ rfl hrg ?_ ?_))
      ·intro hc0 hl0
       have HL0 := hid hl0; clear hl0
       go_wp2_with fail
       have e := alt_drop (f := f) (least := least) hkl HOU.out
       rw [HGO.out] at e
       have e2 := HNL.out
       rw [HL0.out, HL0.out] at e2 hmq
       rw [← e2] at e
       go_roundw
       case rel => exact ⟨k + 1, nl, _, by omega, by simp, rfl, e.symm, hbq, hmq.le (by omega)⟩
       case measure => simp [intOf]; omega
      ·intro x c w2 cnt2 hwx hwc hlx hatx hrg2 hlt2 hg2 hs2 hen
       have hm2 := hmq.kept hg2 (by simp; omega)
       have hb2 := hbq.grown hg2 hbq.size (fun k hk => by cases hk; omega)
       have hxc := HF.out x c hatx
       clear hatx hwx hwc
       have hst := alt_step (f := f) (least := least) (lo := left (.int .i64 o)) (lu := left (.int .i64 u)) HK.out.2.2.2.2 HK.out.1 HK.out.2.2.1 (hxc.imp (fun ⟨h, h'⟩ => ⟨h, h', by rw [← h]; exact hlx⟩) (fun ⟨h, h'⟩ => ⟨h, h', by rw [← h]; exact hlx⟩))
       rw [← HNL.out] at hst
       obtain ⟨g, hg⟩ : ∃ g, g = lastAt f o u (left (.int .i64 o)) (left (.int .i64 u)) := ⟨_, rfl⟩
       rw [← hg] at hm2 hst
       have hL : ∀ y, ((fun z : Lit => left z && !z.sameKey (.int .i64 x)) (.int .i64 y)) = (left (.int .i64 y) && !decide (y = x)) := by intro y; simp [Lit.sameKey]
       rw [← hL, ← hL] at hst
       have HIX : Hid (InI x) := hid (by rcases hxc with ⟨rfl, _⟩ | ⟨rfl, _⟩ <;> assumption)
       have HIC : Hid (InI c) := hid (by rcases hxc with ⟨_, rfl⟩ | ⟨_, rfl⟩ <;> assumption)
       have FIN := hid (fun (nv : Int) (w3 : World) (h : nv = (if g x = c then minZ nl x else nl)) (hm3 : MapI w3 w1.heap.size (m + 1) (fun s => if s = x then c else g s)) (hg3 : w2.grownBy w3 (some w1.heap.size)) =>
        (⟨⟨_, cnt2, m + 1, nv, hrg2.kept hg3 (by simp; omega) (by simp; omega), rfl, h.trans hst.2, by omega, hb2.grown hg3 hb2.size (fun k hk => by cases hk; exact Nat.le_refl _), hst.1 ▸ hm3⟩, by rw [(hrg2.kept hg3 (by simp; omega) (by simp; omega)).left_eq, hrg.left_eq]; exact hlt2⟩ :
        (∃ (left : Lit → Bool) (cnt m : Nat) (nl : Int), w3.ranges Tryz.prog 3 (plainElem Tryz.prog 3) W.heap.size V3.heap.size 2 D left cnt ∧ Value.int .i64 nv = .int .i64 nl ∧ nl = leastAt f least o u (left (.int .i64 o)) (left (.int .i64 u)) ∧ m + cnt ≤ 2 * k + 2 ∧ Below w1.heap.size w1 w3 ∧ MapI w3 w1.heap.size m (lastAt f o u (left (.int .i64 o)) (left (.int .i64 u)))) ∧
        w3.rangeLeft W.heap.size V3.heap.size < wr.rangeLeft W.heap.size V3.heap.size))
       clear hg hst hL hxc hlx
       have hmx2 : m < maxLen := by unfold maxLen; omega
       by_cases h1 : g x = c
       ·by_cases h2 : nl = 0
        ·have hv : x = (if g x = c then minZ nl x else nl) := by simp [h1, h2, minZ]
         have HV := hid hv; clear hv
         go_wp2_with (first | (with_reducible refine wpList_lookI wU wU (hm2) (HIX.out) wU ?_) | ((with_reducible refine wpList_putI wU wU wU (hm2) (HIX.out) (HIC.out) (hmx2) ?_); intro w3 hm3 hg3))
         have := FIN.out x w3 HV.out hm3 hg3
         refine ⟨?_, this.2⟩
         first
          | (repeat apply Exists.intro); exact ⟨this.1, rfl⟩
          | (obtain ⟨left', cnt', m', nl', a1, a2, a3, a4, a5, a6⟩ := this.1; cases a2; exact ⟨left', cnt', a1, a3, m', a4, a5, a6⟩)
        ·by_cases h3 : x < nl
         ·have hv : x = (if g x = c then minZ nl x else nl) := by simp [h1, h3, minZ]
          have HV := hid hv; clear hv
          go_wp2_with (first | (with_reducible refine wpList_lookI wU wU (hm2) (HIX.out) wU ?_) | ((with_reducible refine wpList_putI wU wU wU (hm2) (HIX.out) (HIC.out) (hmx2) ?_); intro w3 hm3 hg3))
          have := FIN.out x w3 HV.out hm3 hg3
          refine ⟨?_, this.2⟩
          first
           | (repeat apply Exists.intro); exact ⟨this.1, rfl⟩
           | (obtain ⟨left', cnt', m', nl', a1, a2, a3, a4, a5, a6⟩ := this.1; cases a2; exact ⟨left', cnt', a1, a3, m', a4, a5, a6⟩)
         ·have hv : nl = (if g x = c then minZ nl x else nl) := by simp [h1, h2, h3, minZ]
          have HV := hid hv; clear hv
          go_wp2_with (first | (with_reducible refine wpList_lookI wU wU (hm2) (HIX.out) wU ?_) | ((with_reducible refine wpList_putI wU wU wU (hm2) (HIX.out) (HIC.out) (hmx2) ?_); intro w3 hm3 hg3))
          have := FIN.out nl w3 HV.out hm3 hg3
          refine ⟨?_, this.2⟩
          first
           | (repeat apply Exists.intro); exact ⟨this.1, rfl⟩
           | (obtain ⟨left', cnt', m', nl', a1, a2, a3, a4, a5, a6⟩ := this.1; cases a2; exact ⟨left', cnt', a1, a3, m', a4, a5, a6⟩)
       ·have hv : nl = (if g x = c then minZ nl x else nl) := by simp [h1]
        have HV := hid hv; clear hv
        go_wp2_with (first | (with_reducible refine wpList_lookI wU wU (hm2) (HIX.out) wU ?_) | ((with_reducible refine wpList_putI wU wU wU (hm2) (HIX.out) (HIC.out) (hmx2) ?_); intro w3 hm3 hg3))
        have := FIN.out nl w3 HV.out hm3 hg3
        refine ⟨?_, this.2⟩
        first
         | (repeat apply Exists.intro); exact ⟨this.1, rfl⟩
         | (obtain ⟨left', cnt', m', nl', a1, a2, a3, a4, a5, a6⟩ := this.1; cases a2; exact ⟨left', cnt', a1, a3, m', a4, a5, a6⟩)
   ·have e : k = cr.length := by omega
    have hv : least = altGo (fun _ => 0) 0 cr := by rw [← hgo, e, List.drop_length]; rfl
    have HV := hid hv; clear hv hgo e
    have hb2 := bnext hb1 hbr
    go_wp2_with fail
    go_ret2
    exact ⟨by rw [HV.out]; rfl, hb2⟩
 ·have eB : altB n l = 0 := if_neg h
  have eC : crossL n l = [] := if_neg h
  rw [eC] at hC
  rw [eB]
  obtain ⟨q, hq⟩ : ∃ q, q = wordE n l := ⟨_, rfl⟩
  rw [← hq] at h hC ⊢
  have hne : (q != 0) = true := by simpa using h
  have HC := hid hC; clear hC eB eC hq
  go_enter Tryz.func14, Tryz.ntmps14
  go_wp2_with fail
  refine HC.out.mono ?_
  rintro e w1 ⟨a1, cap1, rfl, _, _, hb1⟩
  go_wp2_with fail
  go_ret2
  exact ⟨rfl, hb1⟩
end Go.Proofs.YtngpopalpofhgaaGreatDoor

namespace Go.Proofs.YtngpopalpofhgaaGreatDoor
set_option maxRecDepth 100000
/-- a number added at one place of a matrix, and at both places of a pair. -/
def addE (M : List (List Int)) (a b s : Int) : List (List Int) := M.set a.toNat ((M.getD a.toNat []).set b.toNat (atD 0 (M.getD a.toNat []) b + s))
def addM (M : List (List Int)) (a b s : Int) : List (List Int) := addE (addE M a b s) b a s
theorem addE_len (M : List (List Int)) (a b s : Int) : (addE M a b s).length = M.length := by unfold addE; simp
theorem addM_symm {M : List (List Int)} {a b : Int} (s : Int) (h : a.toNat ≠ b.toNat) : addM M a b s = addM M b a s := by
 unfold addM addE
 have e1 : ∀ (X : List Int), (M.set a.toNat X).getD b.toNat [] = M.getD b.toNat [] := fun X => by rw [List.getD_eq_getElem?_getD, List.getElem?_set_ne h, List.getD_eq_getElem?_getD]
 have e2 : ∀ (X : List Int), (M.set b.toNat X).getD a.toNat [] = M.getD a.toNat [] := fun X => by rw [List.getD_eq_getElem?_getD, List.getElem?_set_ne (Ne.symm h), List.getD_eq_getElem?_getD]
 rw [e1, e2, List.set_comm _ _ h]
def sgnI (x : Int) : Int := if x < 0 then -1 else 1
/-- the linking numbers: the strands by their first positions, from 0 on. -/
def linkGo : List (List Int) → List Int → List Int → List (List Int)
 | M, _, [] => M
 | M, st, x :: r => linkGo (addM M (atD 0 st (absI x - 1)) (atD 0 st (absI x)) (sgnI x)) (swapL st (absI x)) r
def zeroM (n : Nat) : List (List Int) := List.replicate n (List.replicate n 0)
def linkL (n : Nat) (w : List Int) : List (List Int) := linkGo (zeroM n) (idL n) w
/-- the sums of the signs of crossings, told from 1 on. -/
def sumGo : List (List Int) → List (Int × Int) → List Int → List (List Int)
 | M, c :: cs, x :: r => sumGo (addM M (c.1 - 1) (c.2 - 1) (sgnI x)) cs r
 | M, _, _ => M
theorem rowGo_cr : ∀ (ws st : List Int) (cr : List (Int × Int)), (rowGo st cr ws).2 = cr ++ (rowGo st [] ws).2
 | [], _, cr => by simp [rowGo]
 | x :: r, st, cr => by rw [rowGo, rowGo, rowGo_cr r, rowGo_cr r _ ([] ++ [crossOf st x])]; simp
theorem sum_link : ∀ (ws st row : List Int) (M : List (List Int)), st.length = row.length → IsP row → (∀ x ∈ ws, 1 ≤ absI x ∧ absI x < row.length) → (∀ j : Int, 0 ≤ j → j < row.length → atD 0 st j = atD 0 row j + 1) →
  sumGo M (rowGo st [] ws).2 ws = linkGo M row ws
 | [], _, _, _, _, _, _, _ => rfl
 | x :: r, st, row, M, hl, hp, hf, h => by
   obtain ⟨a, b⟩ := hf x (by simp)
   rw [rowGo, rowGo_cr r]
   show sumGo M (crossOf st x :: _) (x :: r) = _
   rw [sumGo, linkGo]
   have h1 := h (absI x - 1) (by omega) (by omega)
   have h2 := h (absI x) (by omega) (by omega)
   have r1 := hp.rng (absI x - 1) (by omega) (by omega)
   have r2 := hp.rng (absI x) (by omega) b
   have hne : (atD 0 row (absI x)).toNat ≠ (atD 0 row (absI x - 1)).toNat := fun e => by
     have := hp.inj (absI x) (absI x - 1) (by omega) b (by omega) (by omega) (by omega)
     omega
   have e : addM M ((crossOf st x).1 - 1) ((crossOf st x).2 - 1) (sgnI x) = addM M (atD 0 row (absI x - 1)) (atD 0 row (absI x)) (sgnI x) := by
     unfold crossOf
     split
     · dsimp only
       rw [h1, h2, show atD 0 row (absI x) + 1 - 1 = atD 0 row (absI x) by omega, show atD 0 row (absI x - 1) + 1 - 1 = atD 0 row (absI x - 1) by omega]
       exact addM_symm _ hne
     · dsimp only
       rw [h1, h2, show atD 0 row (absI x) + 1 - 1 = atD 0 row (absI x) by omega, show atD 0 row (absI x - 1) + 1 - 1 = atD 0 row (absI x - 1) by omega]
   rw [e]
   refine sum_link r _ _ _ (by rw [swapL_len, swapL_len, hl]) (swapL_isP a b hp) (fun y hy => by rw [swapL_len]; exact hf y (by simp [hy])) ?_
   intro j j0 j1
   rw [swapL_len] at j1
   obtain ⟨c, d⟩ := sw_rng (f := absI x - 1) (t := absI x) (n := row.length) ⟨by omega, by omega⟩ ⟨by omega, b⟩ ⟨j0, j1⟩
   rw [swapL_at a b j0, swapL_at a (by omega) j0, h _ c d]
theorem start_at {n : Nat} {j : Int} (h0 : 0 ≤ j) (h1 : j < n) : atD 0 (startL n) j = atD 0 (idL n) j + 1 := by
 rw [idL_at h0 h1]
 unfold startL atD
 rw [List.getD_eq_getElem?_getD, List.getElem?_map, List.getElem?_range (by omega)]
 simp; omega
/-- the sums of the signs of all crossings are the linking numbers. -/
theorem signs_link {n : Nat} {w : List Int} (hf : ∀ x ∈ w, 1 ≤ absI x ∧ absI x < (n : Int)) : sumGo (zeroM n) (rowL n w).2 w = linkL n w := by
 unfold rowL linkL
 exact sum_link w (startL n) (idL n) _ (by rw [startL_len, idL_len]) (idL_isP n) (fun x hx => by rw [idL_len]; exact hf x hx) fun j j0 j1 => start_at j0 (by rw [idL_len] at j1; exact j1)
theorem absI_neg (x : Int) : absI (-x) = absI x := by unfold absI; split <;> split <;> omega
theorem crossOf_neg {st : List Int} {x : Int} (h : x ≠ 0) : crossOf st (-x) = ((crossOf st x).2, (crossOf st x).1) := by
 unfold crossOf
 rw [absI_neg]
 by_cases h1 : x < 0
 ·rw [if_neg (by omega), if_pos h1]
 ·rw [if_pos (by omega), if_neg h1]
theorem rowGo_neg : ∀ (ws st : List Int), (∀ x ∈ ws, x ≠ 0) → (rowGo st [] (ws.map fun x => -x)).2 = (rowGo st [] ws).2.map fun c => (c.2, c.1)
 | [], _, _ => rfl
 | x :: r, st, h => by
   rw [List.map_cons, rowGo, rowGo, rowGo_cr, rowGo_cr r, absI_neg, crossOf_neg (h x (by simp)), rowGo_neg r _ fun y hy => h y (by simp [hy])]
   simp
theorem minZ_comm {l a b : Int} (ha : 0 < a) (hb : 0 < b) : minZ (minZ l a) b = minZ (minZ l b) a := by
 unfold minZ
 repeat' split
 all_goals omega
theorem altLeast_swap {f g : Int → Int} {least : Int} {p : Int × Int} (h1 : 0 < p.1) (h2 : 0 < p.2) (h : ∀ s, g s = - f s) : altLeast g least (p.2, p.1) = altLeast f least p := by
 unfold altLeast
 dsimp only
 rw [h, h]
 have e1 : (-f p.1 = -1) = (f p.1 = 1) := by apply propext; omega
 have e2 : (-f p.2 = 1) = (f p.2 = -1) := by apply propext; omega
 simp only [e1, e2]
 by_cases a : f p.1 = 1
 ·by_cases b : f p.2 = -1
  ·rw [if_pos a, if_pos b, if_pos b, if_pos a, minZ_comm h2 h1]
  ·rw [if_pos a, if_neg b, if_neg b, if_pos a]
 ·by_cases b : f p.2 = -1
  ·rw [if_neg a, if_pos b, if_pos b, if_neg a]
  ·rw [if_neg a, if_neg b, if_neg b, if_neg a]
theorem altGo_swap : ∀ (cs : List (Int × Int)) (f g : Int → Int) (least : Int), (∀ p ∈ cs, 0 < p.1 ∧ 0 < p.2 ∧ p.1 ≠ p.2) → (∀ s, g s = - f s) → altGo g least (cs.map fun c => (c.2, c.1)) = altGo f least cs
 | [], _, _, _, _, _ => rfl
 | p :: r, f, g, least, hp, h => by
   obtain ⟨a, b, c⟩ := hp p (by simp)
   rw [List.map_cons, altGo, altGo, altLeast_swap a b h]
   refine altGo_swap r _ _ _ (fun q hq => hp q (by simp [hq])) fun s => ?_
   unfold altLast
   dsimp only
   by_cases h1 : s = p.1
   · rw [if_pos h1, if_neg (fun e => c (h1.symm.trans e)), if_pos h1]
   · by_cases h2 : s = p.2
     · rw [if_pos h2, if_neg h1, if_pos h2]; rfl
     · rw [if_neg h2, if_neg h1, if_neg h1, if_neg h2, h s]
/-- strands that cross: by their first positions from 1 on. -/
theorem cross_rng : ∀ (ws st : List Int) (n : Nat), st.length = n → (∀ j : Int, 0 ≤ j → j < n → 1 ≤ atD 0 st j ∧ atD 0 st j ≤ n) → (∀ i j : Int, 0 ≤ i → i < n → 0 ≤ j → j < n → atD 0 st i = atD 0 st j → i = j) → (∀ x ∈ ws, 1 ≤ absI x ∧ absI x < (n : Int)) →
  ∀ p ∈ (rowGo st [] ws).2, (1 ≤ p.1 ∧ p.1 ≤ n) ∧ (1 ≤ p.2 ∧ p.2 ≤ n) ∧ p.1 ≠ p.2
 | [], _, _, _, _, _, _, p, hp => by simp [rowGo] at hp
 | x :: r, st, n, hl, hr, hi, hf, p, hp => by
   obtain ⟨a, b⟩ := hf x (by simp)
   rw [rowGo, rowGo_cr] at hp
   have r1 := hr (absI x - 1) (by omega) (by omega)
   have r2 := hr (absI x) (by omega) b
   have hne : atD 0 st (absI x) ≠ atD 0 st (absI x - 1) := fun e => by
     have := hi _ _ (by omega) b (by omega) (by omega) e
     omega
   rcases List.mem_append.1 hp with hp | hp
   · rw [List.nil_append, List.mem_singleton] at hp
     subst hp
     unfold crossOf
     split
     · exact ⟨r2, r1, hne⟩
     · exact ⟨r1, r2, hne.symm⟩
   · have hsw : ∀ j : Int, 0 ≤ j → j < n → (0 ≤ sw (absI x - 1) (absI x) j ∧ sw (absI x - 1) (absI x) j < n) := fun j j0 j1 => sw_rng ⟨by omega, by omega⟩ ⟨by omega, b⟩ ⟨j0, j1⟩
     refine cross_rng r (swapL st (absI x)) n (by rw [swapL_len, hl]) (fun j j0 j1 => ?_) (fun i j i0 i1 j0 j1 e => ?_) (fun y hy => hf y (by simp [hy])) p hp
     · rw [swapL_at a (by omega) j0]; exact hr _ (hsw j j0 j1).1 (hsw j j0 j1).2
     · rw [swapL_at a (by omega) i0, swapL_at a (by omega) j0] at e
       have := congrArg (sw (absI x - 1) (absI x)) (hi _ _ (hsw i i0 i1).1 (hsw i i0 i1).2 (hsw j j0 j1).1 (hsw j j0 j1).2 e)
       rwa [sw_sw, sw_sw] at this
theorem rowL_rng {n : Nat} {w : List Int} (hf : ∀ x ∈ w, 1 ≤ absI x ∧ absI x < (n : Int)) : ∀ p ∈ (rowL n w).2, (1 ≤ p.1 ∧ p.1 ≤ n) ∧ (1 ≤ p.2 ∧ p.2 ≤ n) ∧ p.1 ≠ p.2 := by
 unfold rowL
 refine cross_rng w (startL n) n (startL_len n) (fun j j0 j1 => ?_) (fun i j i0 i1 j0 j1 e => ?_) hf
 ·rw [start_at j0 j1, idL_at j0 j1]; omega
 ·rw [start_at i0 i1, start_at j0 j1, idL_at i0 i1, idL_at j0 j1] at e; omega
theorem rowL_neg {n : Nat} {w : List Int} (hf : ∀ x ∈ w, 1 ≤ absI x ∧ absI x < (n : Int)) : (rowL n (w.map fun x => -x)).2 = (rowL n w).2.map fun c => (c.2, c.1) := by
 unfold rowL
 exact rowGo_neg w _ fun x hx e => by have := (hf x hx).1; subst e; unfold absI at this; simp at this
theorem alt_neg {n : Nat} {w : List Int} (hf : ∀ x ∈ w, 1 ≤ absI x ∧ absI x < (n : Int)) : altGo (fun _ => 0) 0 (rowL n (w.map fun x => -x)).2 = altGo (fun _ => 0) 0 (rowL n w).2 := by
 rw [rowL_neg hf]
 exact altGo_swap _ _ _ _ (fun p hp => by have := rowL_rng hf p hp; exact ⟨by omega, by omega, this.2.2⟩) fun s => by simp
end Go.Proofs.YtngpopalpofhgaaGreatDoor

namespace Go.Proofs.YtngpopalpofhgaaGreatDoor
section
variable {S : Type} (G : Gar S)
variable {G}
theorem Pull.post {X Y : List S} (h : Pull G X Y) (Z : List S) : Pull G (X ++ Z) (Y ++ Z) := by
 induction h with
 | here a b X i h1 h2 h3 => exact .here a b (X ++ Z) i h1 h2 h3
 | there a _ ih => exact .there a ih
theorem Star.post {X Y : List S} (h : Star G X Y) (Z : List S) : Star G (X ++ Z) (Y ++ Z) := by
 induction h with
 | refl => exact .refl _
 | step p _ ih => exact .step (p.post Z) ih
end
end Go.Proofs.YtngpopalpofhgaaGreatDoor

namespace Go.Proofs.YtngpopalpofhgaaGreatDoor
set_option maxRecDepth 100000
section
variable {n : Nat} {p : List Int} {i : Nat}
theorem VP.rg (h : VP n p) {x : Int} (h0 : 0 ≤ x) (h1 : x < n) : 0 ≤ atD 0 p x ∧ atD 0 p x < n := by have := h.1.rng x h0 (by rw [h.2]; exact h1); rwa [h.2] at this
end
theorem VP.mem {n : Nat} {p : List Int} (h : VP n p) : ∀ x ∈ p, 0 ≤ x ∧ x < n := by
 intro x hx
 obtain ⟨k, hk, rfl⟩ := List.getElem_of_mem hx
 have := h.rg (x := (k : Int)) (by omega) (by have := h.2; omega)
 unfold atD at this
 rwa [List.getD_eq_getElem?_getD, show (k : Int).toNat = k by omega, List.getElem?_eq_getElem hk] at this
end Go.Proofs.YtngpopalpofhgaaGreatDoor

namespace Go.Proofs.YtngpopalpofhgaaGreatDoor
set_option maxRecDepth 100000
/-- the linking numbers. -/
theorem link_fold : ∀ (w st : List Int) (M : List (List Int)), linkGo M st w = (csB st w).foldl (fun M c => addM M c.2.1 c.2.2 (sgnI c.1)) M
 | [], _, _ => rfl
 | x :: r, st, M => by rw [linkGo, csB, List.foldl_cons, link_fold r]
end Go.Proofs.YtngpopalpofhgaaGreatDoor

namespace Go.Proofs.YtngpopalpofhgaaGreatDoor
open Go.RowKit
set_option maxHeartbeats 4000000
set_option maxRecDepth 100000
theorem bsign_any (n : Int) (w : World) (h : n ≠ 0) :
  Calls Tryz.prog 113 #[.int .i64 n] w fun r w' => r = .returned (.int .i64 (sgnI n)) ∧ w = w' := by
 have hm : max (-1) (min 1 n) = sgnI n := by unfold sgnI; split <;> omega
 go_enter Tryz.func113, Tryz.ntmps113
 go_wp2
 go_ret
 exact ⟨by first | rfl | rw [← hm] | simp [hm], rfl⟩
theorem bneg_any (n : Int) (w : World) (h : -1000 ≤ n) (h2 : n ≤ 1000) :
  Calls Tryz.prog 52 #[.int .i64 n] w fun r w' => r = .returned (.int .i64 (-n)) ∧ w = w' := by
 have hw : IntKind.i64.wrap (-n) = -n := IntWalk.i64_in _ (by omega)
 go_enter Tryz.func52, Tryz.ntmps52
 go_wp2
 go_ret
 exact ⟨rfl, rfl⟩
def negW (l : List Int) : List Int := l.map fun x => -x
theorem bmapneg_any (al : Option Addr) (cl : Nat) (l : List Int) (w : World) (hL : Ints w al cl l) (hn : l.length ≤ 1000) (hf : ∀ x ∈ l, -1000 ≤ x ∧ x ≤ 1000) :
  Calls Tryz.prog 51 #[.slice al l.length cl, .func (.func 52) #[] #[]] w fun r w' => ∃ v, r = .returned v ∧ OwnI w.heap.size w' v (negW l) ∧ Below w.heap.size w w' := by
 have hcap := hL.le
 have hmx := hL.max
 have H : Hid (∀ x ∈ l, ∀ w', Calls Tryz.prog 52 #[.int .i64 x] w' fun r w'' => r = .returned (.int .i64 (-x)) ∧ w' = w'') := hid fun x hx w' => bneg_any x w' (hf x hx).1 (hf x hx).2
 have hS := (SL.nil w).nilS (α := Int) (e := 3) cIntS
 go_enter Tryz.func51, Tryz.ntmps51
 go_wp2_with fail
 go_loopw [10, 7, 5] (fun i _ v wr => ∃ k : Nat, k ≤ l.length ∧ i = .int .i64 k ∧ SL w.heap.size w wr [pOwn cInt 1 3 v (negW (l.take k))]) (fun i _ _ _ => l.length - (intOf i).toNat)
 case atStart => exact ⟨0, by omega, rfl, hS⟩
 case round =>
  clear hS
  obtain ⟨k, hk, rfl, hSr⟩ := hrel
  have hLr := hL.below hSr.b
  by_cases hlt : k < l.length
  ·have hmem := atD_mem hlt
   have ht : l.take (k + 1) = l.take k ++ [atD 0 l k] := by rw [List.take_succ_eq_append_getElem hlt]; simp [atD, hlt]
   have hlen : (negW (l.take k)).length ≤ 1048576 := by unfold negW; simp; omega
   obtain ⟨x, hx⟩ : ∃ x, x = atD 0 l k := ⟨_, rfl⟩
   rw [← hx] at hmem ht
   have HX := hid hx; have HT := hid ht
   clear hx ht
   go_wp2_with ((with_reducible refine wpList_idx _ 0 E_ints F_int cInt1 wU wU (hLr) oD oD (fun _ => wU) (fun _ => ?_)); rw [← HX.out])
   refine (H.out x hmem _).mono ?_
   rintro e w1 ⟨rfl, rfl⟩
   go_wp2_with ((with_reducible refine wpList_pushL (y := (-x)) 0 E_ints wU wU (hSr) wU cIntO ⟨rfl, rfl⟩ (by first | with_unfolding_all rfl | simp) wU (by first | omega | (simp; omega)) (by first | omega | (simp; omega)) ?_); intro v2 w2 hS2)
   exact ⟨⟨k + 1, by omega, by go_num, by rw [HT.out]; unfold negW at hS2 ⊢; rw [List.map_append]; exact hS2⟩, by simp [intOf]; omega⟩
  ·have hkk : k = l.length := by omega
   subst hkk
   rw [List.take_length] at hSr
   clear hlt
   go_wp2_with fail
   go_ret
   exact ⟨_, rfl, hSr.own 0 rfl, hSr.b⟩
theorem word_small {n : Int} {l : List Int} (h : wordE n l = 0) : ∀ x ∈ l, -1000 ≤ x ∧ x ≤ 1000 := fun x hx => by
 obtain ⟨h1, h2, _, h4⟩ := wordE_fits h
 have := h4 x hx
 omega
theorem bMirror_any (n : Int) (a : Option Addr) (cap : Nat) (l : List Int) (w : World) (hS : Ints w a cap l) (h : wordE n l = 0) :
  Calls Tryz.prog 13 #[.int .i64 n, .slice a l.length cap] w fun r w' => ∃ v, r = .returned (.tuple #[v, .int .i64 0]) ∧ OwnI w.heap.size w' v (negW l) ∧ Below w.heap.size w w' := by
 have hl := (wordE_fits h).2.2.1
 have CW := fun w (hS : Ints w a cap l) => CheckWord_any n a cap l w hS (by omega)
 rw [h] at CW
 have HW := hid CW
 have HM := hid (fun w (hS : Ints w a cap l) => bmapneg_any a cap l w hS (by omega) (word_small h))
 have hS0 := SL.nil w
 clear CW h
 go_enter Tryz.func13, Tryz.ntmps13
 go_wp2_with fail
 refine (HW.out _ hS).mono ?_
 rintro e w1 ⟨rfl, b1⟩
 have hS1 := hS0.mono b1
 clear hS0
 go_wp2_with fail
 refine (HM.out _ (hS.below b1)).mono ?_
 rintro e w2 ⟨v2, rfl, ho2, b2⟩
 have hS2 := hS1.call (SL.ofOwn ho2 b2)
 rw [List.append_nil] at hS2
 clear hS1 ho2
 go_wp2_with fail
 go_ret2
 exact ⟨v2, rfl, hS2.own 0 rfl, hS2.b⟩
end Go.Proofs.YtngpopalpofhgaaGreatDoor

namespace Go.Proofs.YtngpopalpofhgaaGreatDoor
open Go.RowKit
set_option maxRecDepth 100000
section
variable {P : Program} {n r : Nat}
theorem wpQuietR {ops : Array Oper} {C : World → Prop} {Q : Act → Prop} : ∀ (l : List Oper) (a : Act), wpQuiet P ops C Q l a → wpQuietIn (Fence.wide.inRound r) n P ops C Q l a
 | [], a, h => h
 | o :: l, a, h => by
   unfold wpQuiet at h
   unfold wpQuietIn
   refine ⟨fun _ _ _ _ => trivial, ?_⟩
   split at h
   · rename_i hw
     rw [if_pos hw]
     obtain ⟨v, h1, h2⟩ := h
     refine ⟨v, fun w' hw' => ?_, wpQuietR l _ h2⟩
     have h3 := h1 w' hw'
     unfold Oper.quietAt at h3
     unfold Oper.quietAtIn
     generalize (execOp a.eval o).run P w' = res at h3 ⊢
     cases res with
     | ok x w'' =>
       cases x with
       | value v => exact h3
       | skip => exact h3
       | enter f args => exact ⟨h3.1, fun h => (by simp [Fence.wide] at h), callsR h3.2⟩
       | _ => exact absurd h3 (by simp [Oper.quietUpon])
     | halt x w'' => exact absurd h3 (by simp [Oper.quietUpon])
   · rename_i hw
     rw [if_neg hw]
     exact wpQuietR l _ h
/-- a quiet head and a tail in a class of worlds, within a round. -/
theorem wpIn_region_qtR {id : Nat} {Q : Exit → Act → World → Prop} {a : Act} {w : World} {l : List Oper} (k : Nat) (hnd : l.all Oper.noDefer = true) (hm : P.follows .mixedOrders = true) (hB : Region.lexTailB .any l.toArray k = true)
  (h : wpQuiet P l.toArray (Below w.heap.size w) (fun a' => ∀ w', Below w.heap.size w w' → wpList P l.toArray (fun e a w => e = .normal ∧ Q e a w) (l.drop k) a' w') (l.take k) a) : (Code.region id l.toArray true).wpIn (Fence.wide.inRound r) n P Q a w := by
 have hnd' : ∀ (i : Nat) o, l.toArray[i]? = some o → ∀ c, o.op ≠ .defer c := by
  intro i o ho
  exact noDefer_ne (List.all_eq_true.1 hnd o (List.mem_of_getElem? (by simpa using ho)))
 have hdr : ∀ o ∈ l.drop k, Oper.noDefer o = true := fun o ho => List.all_eq_true.1 hnd o (List.mem_of_mem_drop ho)
 simp only [Region.lexTailB, Bool.and_eq_true, decide_eq_true_eq] at hB
 obtain ⟨⟨⟨⟨hsel, hn⟩, hs⟩, hc⟩, hlex⟩ := hB
 have hn' : k < l.length := by simpa using hn
 have htl : (l.take k).length = k := by simp; omega
 have hdl : (l.drop k).length = l.toArray.size - k := by simp
 have inv0 : HeadInv .any l.toArray k (Array.replicate l.toArray.size false) :=
  ⟨by simp, fun j oj _ hl => (by rw [getD_replicate_false] at hl; cases hl), fun t _ ht => getD_in (by simpa using ht) (getD_replicate_false _ _)⟩
 have H := wpAnyLQIn_lex (F := Fence.wide.inRound r) (m := n) (md := .any) (g := l.toArray.size - k) hsel hs hc hn (l.take k) 0 _ a (fun j hj => by
  have hj' : j < k := by rw [htl] at hj; exact hj
  simp [hj']) (by simpa using htl) inv0 (by rw [htl]; exact hlex) (wpQuietR (n := n) (r := r) _ _ h)
 refine wpIn_region_any hm ?_
 have := wpAnyIn_of_headQ (C := Below w.heap.size w) (Q' := Q) (g := l.toArray.size - k) hnd' (fun listed a' w' hw' hL => by
  have := wpAnyIn_of_seq (F := Fence.wide.inRound r) (m := n) (P := P) (ops := l.toArray) (md := .any) (Q' := Q) (l.drop k) k listed a' w' (fun j => by simp [List.getElem?_drop]) (by rw [hdl]; exact hL.1)
   (wpListR (fun _ _ _ h => h.2) noOut _ _ _ (List.all_eq_true.2 hdr) (hL.2 w' hw'))
  rwa [hdl] at this) _ _ _ _ (Below.refl _ _).drew H
 rw [htl, show k + (l.toArray.size - k) = l.toArray.size by omega] at this
 exact this
end
section
variable {P : Program} {ops : Array Oper} {rest : List Oper} {a : Act} {Q : Exit → Act → World → Prop} {α : Type} {c : α → Value} {sz bytes B : Nat} {t e : TypeId} {z v : Value} {w0 w : World} {L : List Pc} {l : List α}
end
end Go.Proofs.YtngpopalpofhgaaGreatDoor

namespace Go.Proofs.YtngpopalpofhgaaGreatDoor
open Go.RowKit
set_option maxRecDepth 100000
theorem sto_sl (u : SlH) (w : World) (p : Addr) (h1 : (w.cell? p).isSome = true) (h2 : w.frozen? p = false) : (Instr.storeAt 22 (.pointer (some p)) (cSl u)).run Tryz.prog w = .ok () (w.setCell p (cSl u)) := by
 obtain ⟨v, hv⟩ := Option.isSome_iff_exists.1 h1
 simp [go_sem, hv, h2]
theorem F_sls : Flat Tryz.prog 29 := ⟨_, Tryz.underlying29, rfl⟩
section
variable {ops : Array Oper} {rest : List Oper} {a : Act} {Q : Exit → Act → World → Prop} {w : World} {ty : TypeId} {p : String} {af : Array Edge}
/-- a store into a cell that is known. -/
theorem wpList_stoAt {e : TypeId} {x y : Operand} {pa : Addr} {u v : Value} (hsto : (w.cell? pa).isSome = true → w.frozen? pa = false → (Instr.storeAt e (.pointer (some pa)) v).run Tryz.prog w = .ok () (w.setCell pa v)) (hx : a.eval x = .pointer (some pa)) (hy : a.eval y = v)
  (hc : w.cell? pa = some u) (hf : w.frozen? pa = false) (h : wpList Tryz.prog ops Q rest (a.put none undef) (w.setCell pa v)) :
  wpList Tryz.prog ops Q (⟨none, .store e x y, ty, p, af, none⟩ :: rest) a w := by
 refine wpList_plain rfl fun K hK' => ?_
 have hs := hsto (by rw [hc]; rfl) hf
 unfold Oper.wp
 simp only [execOp, hx, hy]
 simp [hs, Result.andThen]
 exact hK' _ _ h
end
/-- the zero matrix while it is made: k rows are there. -/
def mxH (n k : Nat) (qs : List (SlH × List Int)) : List SlH := qs.map Prod.fst ++ List.replicate (n - k) (none, 0, 0)
theorem mxH_len {n k : Nat} {qs : List (SlH × List Int)} (hq : qs.length = k) (h : k ≤ n) : (mxH n k qs).length = n := by unfold mxH; simp; omega
theorem mxH_zero (n : Nat) : mxH n 0 [] = List.replicate n (none, 0, 0) := by simp [mxH]
theorem mxH_full {n : Nat} {qs : List (SlH × List Int)} : mxH n n qs = qs.map Prod.fst := by simp [mxH]
theorem mxH_set {n k : Nat} {qs : List (SlH × List Int)} (hq : qs.length = k) (h : k < n) (x : SlH × List Int) : (mxH n k qs).set k x.1 = mxH n (k + 1) (qs ++ [x]) := by
 unfold mxH
 rw [List.set_append_right _ _ (by simp [hq]), List.length_map, hq, Nat.sub_self, show n - k = (n - (k + 1)) + 1 by omega, List.replicate_succ, List.set_cons_zero]
 simp
/-- the rows of a matrix with n columns. -/
structure Mx (n : Nat) (M : List (List Int)) : Prop where
 len : M.length = n
 row : ∀ r ∈ M, r.length = n
theorem zeroM_mx (n : Nat) : Mx n (zeroM n) := ⟨by simp [zeroM], fun r hr => by unfold zeroM at hr; rw [List.eq_of_mem_replicate hr]; simp⟩
theorem mx_getD {n : Nat} {M : List (List Int)} (h : Mx n M) {a : Nat} (ha : a < n) : (M.getD a []).length = n := by
 have e : M.getD a [] = M[a]'(by rw [h.len]; exact ha) := by simp [show a < M.length by rw [h.len]; exact ha]
 rw [e]
 exact h.row _ (List.getElem_mem _)
theorem addE_mx {n : Nat} {M : List (List Int)} (h : Mx n M) {a : Int} (ha : a.toNat < n) (b s : Int) : Mx n (addE M a b s) := by
 refine ⟨by rw [addE_len, h.len], fun r hr => ?_⟩
 unfold addE at hr
 rcases List.mem_or_eq_of_mem_set hr with hr | rfl
 ·exact h.row r hr
 ·rw [List.length_set, mx_getD h ha]
theorem addM_mx {n : Nat} {M : List (List Int)} (h : Mx n M) {a b : Int} (ha : a.toNat < n) (hb : b.toNat < n) (s : Int) : Mx n (addM M a b s) := addE_mx (addE_mx h ha b s) hb a s
/-- all entries are small. -/
def MxB (M : List (List Int)) (c : Int) : Prop := ∀ a b : Int, -c ≤ atD 0 (M.getD a.toNat []) b ∧ atD 0 (M.getD a.toNat []) b ≤ c
theorem setI_or (p : List Int) (i : Nat) (v : Int) (j : Int) : atD 0 (p.set i v) j = v ∨ atD 0 (p.set i v) j = atD 0 p j := by
 unfold atD
 rw [List.getD_eq_getElem?_getD, List.getD_eq_getElem?_getD, List.getElem?_set]
 split
 ·split
  ·left; rfl
  ·right; rw [List.getElem?_eq_none (by omega)]
 ·right; rfl
theorem setM_or (M : List (List Int)) (i : Nat) (v : List Int) (j : Nat) : (M.set i v).getD j [] = v ∨ (M.set i v).getD j [] = M.getD j [] := by
 rw [List.getD_eq_getElem?_getD, List.getD_eq_getElem?_getD, List.getElem?_set]
 split
 ·split
  ·left; rfl
  ·right; rw [List.getElem?_eq_none (by omega)]
 ·right; rfl
theorem addE_b {M : List (List Int)} {c : Int} (h : MxB M c) (a b : Int) {s : Int} (hs : -1 ≤ s ∧ s ≤ 1) : MxB (addE M a b s) (c + 1) := by
 intro x y
 have h0 := h x y
 have h1 := h a b
 have h2 := h a y
 unfold addE
 rcases setM_or M a.toNat ((M.getD a.toNat []).set b.toNat (atD 0 (M.getD a.toNat []) b + s)) x.toNat with e | e <;> rw [e]
 ·rcases setI_or (M.getD a.toNat []) b.toNat (atD 0 (M.getD a.toNat []) b + s) y with e2 | e2 <;> rw [e2] <;> omega
 ·omega
theorem zeroM_b (n : Nat) : MxB (zeroM n) 0 := by
 intro a b
 have : atD 0 ((zeroM n).getD a.toNat []) b = 0 := by
  unfold zeroM atD
  rw [List.getD_eq_getElem?_getD, List.getD_eq_getElem?_getD, List.getElem?_replicate]
  split
  ·simp [List.getElem?_replicate]
   split <;> rfl
  ·simp
 omega
theorem sgnI_b (x : Int) : -1 ≤ sgnI x ∧ sgnI x ≤ 1 := by unfold sgnI; split <;> omega
/-- the handles H lead to the rows of M. -/
def mxQ (H : List SlH) (M : List (List Int)) : List (SlH × List Int) := H.zip M
theorem zip_set : ∀ (H : List SlH) (M : List (List Int)) (i : Nat) (v : List Int) (h : i < H.length), H.zip (M.set i v) = (H.zip M).set i (H[i], v)
 | [], _, _, _, h => by simp at h
 | x :: H, [], i, v, _ => by simp
 | x :: H, m :: M, 0, v, _ => rfl
 | x :: H, m :: M, i + 1, v, h => by
   have h2 : i < H.length := by simpa using h
   simp only [List.set_cons_succ, List.zip_cons_cons]
   rw [zip_set H M i v h2]
   rfl
section
variable {B : Nat} {w0 w : World} {pre : List Pc}
/-- one row of a matrix: where it lies, what an entry is, and what a store makes of it. -/
theorem mx_row {H : List SlH} {M : List (List Int)} {n : Nat} (h : SL B w0 w (pre ++ (mxQ H M).map inP)) (hH : H.length = n) (hM : Mx n M) {a : Int} (a0 : 0 ≤ a) (a1 : a < n) :
  ∃ g c, atD ((none, 0, 0) : SlH) H a = (some ⟨g, 0, none⟩, n, c) ∧ Reps cInt 1 w (some ⟨g, 0, none⟩) c (M.getD a.toNat []) ∧ B ≤ g ∧ g < w.heap.size ∧
   ∀ b : Int, 0 ≤ b → b < n → w.cell? ⟨g, b.toNat, none⟩ = some (.int .i64 (atD 0 (M.getD a.toNat []) b)) ∧ w.frozen? ⟨g, b.toNat, none⟩ = false ∧
    ∀ s : Int, SL B w0 (w.setCell ⟨g, b.toNat, none⟩ (.int .i64 (atD 0 (M.getD a.toNat []) b + s))) (pre ++ (mxQ H (addE M a b s)).map inP) := by
 have hal : a.toNat < M.length := by rw [hM.len]; omega
 have haH : a.toNat < H.length := by omega
 have eH : atD ((none, 0, 0) : SlH) H a = H[a.toNat] := by simp [atD, haH]
 have eM : M.getD a.toNat [] = M[a.toNat] := by simp [hal]
 have hi : (pre ++ (mxQ H M).map inP)[pre.length + a.toNat]? = some (pOwn cInt 1 3 (cSl H[a.toNat]) M[a.toNat]) := by
  rw [List.getElem?_append_right (by omega), Nat.add_sub_cancel_left, List.getElem?_map]
  unfold mxQ
  rw [List.getElem?_eq_getElem (by rw [List.length_zip]; omega), List.getElem_zip]
  rfl
 have hrl : (M[a.toNat]).length = n := hM.row _ (List.getElem_mem _)
 obtain ⟨ad, c, e1, hR⟩ := h.slice _ hi
 have e2 : H[a.toNat] = (ad, n, c) := by
  generalize H[a.toNat] = q at e1 ⊢
  obtain ⟨x1, x2, x3⟩ := q
  simp only [cSl, Value.slice.injEq] at e1
  obtain ⟨rfl, rfl, rfl⟩ := e1
  rw [hrl]
 have hi2 := hi
 rw [e2] at hi2
 simp only [cSl] at hi2
 obtain ⟨g, rfl, -⟩ := h.setOwn cInt1 _ hi2 0 (by omega) (by rw [hrl]; omega) 0
 have hown := h.own _ hi2
 refine ⟨g, c, by rw [eH, e2], by rw [eM]; exact hR, (hown.lt g rfl).1, (hown.lt g rfl).2, fun b b0 b1 => ?_⟩
 rw [eM]
 obtain ⟨g', e3, -, hc, hf, -⟩ := h.setOwn cInt1 _ hi2 b b0 (by rw [hrl]; omega) 0
 cases e3
 refine ⟨?_, hf, fun s => ?_⟩
 ·rw [hc]
  have : b.toNat < (M[a.toNat]).length := by rw [hrl]; omega
  simp [atD, this, cInt]
 ·obtain ⟨g', e3, -, -, -, hS⟩ := h.setOwn cInt1 _ hi2 b b0 (by rw [hrl]; omega) (atD 0 M[a.toNat] b + s)
  cases e3
  have e4 : (pre ++ (mxQ H M).map inP).set (pre.length + a.toNat) (pOwn cInt 1 3 (.slice (some ⟨g, 0, none⟩) n c) ((M[a.toNat]).set b.toNat (atD 0 M[a.toNat] b + s))) = pre ++ (mxQ H (addE M a b s)).map inP := by
   have e5 : addE M a b s = M.set a.toNat ((M[a.toNat]).set b.toNat (atD 0 M[a.toNat] b + s)) := by unfold addE; rw [eM]
   rw [List.set_append_right _ _ (by omega), Nat.add_sub_cancel_left, e5]
   unfold mxQ
   rw [zip_set H M _ _ haH, List.map_set, e2]
   rfl
  rw [e4] at hS
  exact hS
end
end Go.Proofs.YtngpopalpofhgaaGreatDoor

namespace Go.Proofs.YtngpopalpofhgaaGreatDoor
open Go.RowKit Go.Maps
set_option maxRecDepth 100000

section
variable {ops : Array Oper} {rest : List Oper} {a : Act} {Q : Exit → Act → World → Prop} {d : Option Tmp} {ty : TypeId} {p : String} {m x y : Operand} {af : Array Edge} {g : Option (Nat × Bool)} {b n B : Nat} {k : Int} {w0 w : World} {L : List Pc} {l : List Int}
end
section
variable {P : Program} {ops : Array Oper} {rest : List Oper} {a : Act} {α : Type} {c : α → Value} {sz bytes : Nat} {t e t2 e2 : TypeId} {z : Value} {ad : Option Addr} {cap n : Nat} {l : List α} {k : Int} {w : World}
 {d1 d2 d3 : Tmp} {ty1 ty2 ty3 : TypeId} {p1 p2 p3 : String} {s x : Operand} {af1 af2 af3 : Array Edge} {j : Nat} {g1 g2 g3 : Option (Nat × Bool)}
end
section
variable {P : Program} {ops : Array Oper} {a : Act} {ty : TypeId} {p : String} {af : Array Edge} {g : Option (Nat × Bool)} {d : Tmp} {C : World → Prop}
theorem yieldsK_cellC {e : TypeId} {s : Operand} {x : Addr} {v : Value} (hF : Flat P e) (hb : ∀ w, C w → w.cell? x = some v) (hg : Region.wanted (⟨some d, .load e s, ty, p, af, g⟩ : Oper) (yielded ops a.tmps) = true) (hs : a.eval s = .pointer (some x)) :
  YieldsK P ops C ⟨some d, .load e s, ty, p, af, g⟩ v a :=
 .inl ⟨hg, fun w' hw' => by simp [execOp, hs, run_loadAt_cell w' hF (hb w' hw'), Result.andThen]⟩
end
end Go.Proofs.YtngpopalpofhgaaGreatDoor

namespace Go.Proofs.YtngpopalpofhgaaGreatDoor
open Go.RowKit
set_option maxHeartbeats 1000000
set_option maxRecDepth 100000
section
variable {P : Program} {ops : Array Oper} {rest : List Oper} {a : Act} {Qa : Act → Prop} {α : Type} {c : α → Value} {sz bytes : Nat} {t e : TypeId} {z : Value} {ad : Option Addr} {cap : Nat} {l : List α} {k : Int} {w : World}
 {d1 d2 : Tmp} {ty1 ty2 : TypeId} {p1 p2 : String} {s x : Operand} {af1 af2 : Array Edge}
theorem wpB_idx2 (d : α) (E : ETy P t e z sz bytes) (hF : Flat P e) (hc : ∀ x, (c x).cells = #[c x])
   {n : Nat} (hs : a.eval s = .slice ad n cap) (hn : l.length = n) (hx : a.eval x = .int .i64 k) (hR : Reps c sz w ad cap l) (h0 : 0 ≤ k) (hlt : k < l.length) (hd : ∀ p, (a.put (some d1) p).eval (.tmp d1) = p)
   (hK : ∀ p, wpQuiet P ops (Below w.heap.size w) Qa rest ((a.put (some d1) p).put (some d2) (c (atD d l k)))) :
   wpQuiet P ops (Below w.heap.size w) Qa (⟨some d1, .indexAddr t s x, ty1, p1, af1, none⟩ :: ⟨some d2, .load e (.tmp d1), ty2, p2, af2, none⟩ :: rest) a := by
 subst hn
 have hkl : k.toNat < l.length := by omega
 obtain ⟨b, o, rfl, hcs⟩ := hR.cells E.pos d k.toNat hkl
 have hcell := hcs 0 (c (atD d l k)) (by rw [show l.getD k.toNat d = atD d l k from rfl, hc]; rfl)
 refine wpQ_in (.pointer (some ((⟨b, o, none⟩ : Addr).add (k.toNat * sz)))) rfl (fun w' hw' => ?_) (wpQ_in (c (atD d l k)) rfl (fun w' hw' => ?_) (hK _))
 ·have h1 := run_indexAt_sl (P := P) (a := ⟨b, o, none⟩) (cap := cap) w' E h0 hlt
  simp [execOp, hs, hx, h1, Result.andThen]
 ·have h2 := run_loadAt_cell (P := P) w' (a := (⟨b, o, none⟩ : Addr).add (k.toNat * sz)) (v := c (atD d l k)) hF (by
   rw [Addr.add_z]
   exact (hw'.cell (World.block_lt_of_cell? w _ hcell)).trans hcell)
  simp [execOp, hd, h2, Result.andThen]
end
end Go.Proofs.YtngpopalpofhgaaGreatDoor

namespace Go.Proofs.YtngpopalpofhgaaGreatDoor
open Go.RowKit Go.Shelf
attribute [local go_sem] Oper.semAt_some
set_option maxHeartbeats 8000000
set_option maxRecDepth 100000
def linkF' (n : Nat) (pre : List (CrS n)) : List (List Int) := pre.foldl (fun M c => addM M c.1.2.1 c.1.2.2 (sgnI c.1.1)) (zeroM n)
theorem linkF_snoc {n : Nat} (pre : List (CrS n)) (x : CrS n) : linkF' n (pre ++ [x]) = addM (linkF' n pre) x.1.2.1 x.1.2.2 (sgnI x.1.1) := by simp [linkF']
theorem linkF_end {n : Nat} {ws : List Int} (ys : List (CrS n)) (h : ys.map (·.1) = csB (idL n) ws) : linkF' n ys = linkL n ws := by
 unfold linkL
 rw [link_fold, ← h, linkF', List.foldl_map]
theorem linkF_ok {n : Nat} : ∀ (pre : List (CrS n)), Mx n (linkF' n pre) ∧ MxB (linkF' n pre) (2 * pre.length) := by
 have key : ∀ (pre : List (CrS n)) (M : List (List Int)) (c : Int), Mx n M → MxB M c → Mx n (pre.foldl (fun M c => addM M c.1.2.1 c.1.2.2 (sgnI c.1.1)) M) ∧ MxB (pre.foldl (fun M c => addM M c.1.2.1 c.1.2.2 (sgnI c.1.1)) M) (c + 2 * pre.length) := by
  intro pre
  induction pre with
  | nil => intro M c h1 h2; exact ⟨h1, by simpa using h2⟩
  | cons x r ih =>
   intro M c h1 h2
   obtain ⟨_, ha, hb, _⟩ := x.2
   have h3 := addM_mx h1 (a := x.1.2.1) (b := x.1.2.2) (by omega) (by omega) (sgnI x.1.1)
   have h4 := addE_b (addE_b h2 x.1.2.1 x.1.2.2 (sgnI_b x.1.1)) x.1.2.2 x.1.2.1 (sgnI_b x.1.1)
   obtain ⟨h5, h6⟩ := ih (addM M x.1.2.1 x.1.2.2 (sgnI x.1.1)) (c + 2) h3 (by
    have : c + 2 = c + 1 + 1 := by omega
    rw [this]; exact h4)
   refine ⟨h5, ?_⟩
   rw [List.length_cons]
   have : c + 2 * ((r.length + 1 : Nat) : Int) = c + 2 + 2 * (r.length : Int) := by omega
   rw [this]
   exact h6
 intro pre
 have := key pre (zeroM n) 0 (zeroM_mx n) (zeroM_b n)
 simpa [linkF'] using this
section
variable {P : Program} {ops : Array Oper} {rest : List Oper} {a : Act} {Qa : Act → Prop} {C : World → Prop} {bytes : Nat} {t e : TypeId} {z : Value} {cap n g : Nat} {k : Int}
/-- an index of a slice, in a quiet region. -/
theorem wpB_ix {d1 : Tmp} {ty1 : TypeId} {p1 : String} {s x : Operand} {af1 : Array Edge} (E : ETy P t e z 1 bytes) (hs : a.eval s = .slice (some ⟨g, 0, none⟩) n cap) (hx : a.eval x = .int .i64 k) (h0 : 0 ≤ k) (hlt : k < n)
   (hK : wpQuiet P ops C Qa rest (a.put (some d1) (.pointer (some ⟨g, k.toNat, none⟩)))) :
   wpQuiet P ops C Qa (⟨some d1, .indexAddr t s x, ty1, p1, af1, none⟩ :: rest) a := by
 refine wpQ_in (.pointer (some ((⟨g, 0, none⟩ : Addr).add (k.toNat * 1)))) rfl (fun w' hw' => ?_) ?_
 ·have h1 := run_indexAt_sl (P := P) (a := ⟨g, 0, none⟩) (cap := cap) w' E h0 hlt
  simp [execOp, hs, hx, h1, Result.andThen]
 ·rw [Addr.add_z]
  simpa using hK
end
/-- what braid.link holds while it ranges. -/
def linkI (w : World) (Pb G n : Nat) (H : List SlH) (M : List (List Int)) (W : World) : Prop :=
 SL w.heap.size w W ([pBlk Pb (.cells #[.slice (some ⟨G, 0, none⟩) n n] 29), pOwn cSl 1 22 (.slice (some ⟨G, 0, none⟩) n n) H] ++ (mxQ H M).map inP)
theorem linkI_ahead {α : Type} {w : World} {Pb G n C : Nat} {H : List SlH} (hC : w.heap.size ≤ C) (hP : Pb < C) (hG : G < C) (hH : ∀ h ∈ H, ∀ b, (cSl h).ownBlock = some b → b < C) (f : List α → List (List Int)) : AheadOf C (fun pre W => linkI w Pb G n H (f pre) W) := fun s A W row h hg hr =>
 SL.ahead h hg hr hC (by
  intro p hp W b hb
  rcases List.mem_append.1 hp with hp | hp
  ·simp only [List.mem_cons, List.not_mem_nil, or_false] at hp
   rcases hp with rfl | rfl
   ·obtain ⟨h1, h2⟩ := hb; cases h1; exact hP
   ·obtain ⟨h1, h2⟩ := hb; cases h2; exact hG
  ·obtain ⟨q, hq, rfl⟩ := List.mem_map.1 hp
   obtain ⟨h1, h2⟩ := hb
   exact hH q.1 (List.of_mem_zip hq).1 b h2)
theorem zip_back : ∀ (qs : List (SlH × List Int)), (qs.map Prod.fst).zip (qs.map Prod.snd) = qs
 | [] => rfl
 | (a, b) :: r => by simp [zip_back r]
theorem link_any5 (ad : Option Addr) (cap n : Nat) (ws : List Int) (w : World) (hn : 1 ≤ n) (hn2 : n ≤ 100) (hl : ws.length ≤ 1048576) (hf : ∀ x ∈ ws, 1 ≤ absI x ∧ absI x < (n : Int)) (hS : Ints w ad cap ws) :
  Calls Tryz.prog 46 #[.int .i64 n, .slice ad ws.length cap] w fun r w' => ∃ (v : Value) (H : List SlH), r = .returned v ∧ H.length = n ∧ SL w.heap.size w w' ([pOwn cSl 1 22 v H] ++ (mxQ H (linkL n ws)).map inP) := by
 refine callsIn_wide.1 (callsIn_of_wp_marks (n := 9) (F := Fence.wide) Tryz.func46 rfl trivial ?_ rfl)
 simp only [Tryz.ntmps46, List.size_toArray, List.length_cons, List.length_nil, Nat.reduceAdd, Nat.reduceSub, Array.replicate_succ, Array.replicate_zero, List.push_toArray, List.append_toArray, List.nil_append, List.cons_append]
 refine wpIn_wide.2 ?_
 have hS0 := SL.nil w
 go_wp2_with ((with_reducible refine wpList_makeL (c := cSl) (n) (((none, 0, 0) : SlH)) E_sls cSl1 wU wU (by omega) (by omega) (hS0) ?_); intro ad1 w1 hS1)
 obtain ⟨G, hG, -⟩ := hS1.setOwn cSl1 0 rfl 0 (by omega) (by simp; omega) (none, 0, 0)
 subst hG
 have hGl := ((hS1.own 0 rfl).lt G rfl).2
 have hGlo := ((hS1.own 0 rfl).lt G rfl).1
 have hS2 := hS1.box (.cells #[.slice (some ⟨G, 0, none⟩) n n] 29)
 obtain ⟨Pb, hPb⟩ : ∃ P, P = w1.heap.size := ⟨_, rfl⟩
 rw [← mxH_zero, ← hPb] at hS2
 rw [← hPb] at hGl ⊢
 have hbP : Pb < (w1.alloc (.cells #[.slice (some ⟨G, 0, none⟩) n n] 29)).heap.size := by simp [hPb]
 clear hS1 hS0 hPb
 generalize (w1.alloc (.cells #[.slice (some ⟨G, 0, none⟩) n n] 29)) = wa at *
 have HS := hid hS; have HF := hid hf
 clear hS hf
 go_loopw [13, 6] (fun iv _ wr => ∃ (k : Nat) (qs : List (SlH × List Int)), k ≤ n ∧ iv = .int .i64 k ∧ qs.length = k ∧ qs.map Prod.snd = List.replicate k (List.replicate n 0) ∧ SL w.heap.size w wr (pBlk Pb (.cells #[.slice (some ⟨G, 0, none⟩) n n] 29) :: pOwn cSl 1 22 (.slice (some ⟨G, 0, none⟩) n n) (mxH n k qs) :: qs.map inP)) (fun iv _ _ => n - (intOf iv).toNat)
 case atStart => exact ⟨0, [], by omega, rfl, rfl, rfl, hS2⟩
 case round =>
  obtain ⟨k, qs, hk, rfl, hql, hqs, hSr⟩ := hrel
  by_cases hlt : k < n
  ·have qb := (hSr.blk 0 rfl).1
   have hsl : mxH n k qs = mxH n k qs := rfl
   have HQL := hid hql; have HQS := hid hqs
   have hml := mxH_len hql hk
   obtain ⟨HH, hHH⟩ : ∃ HH, HH = mxH n k qs := ⟨_, rfl⟩
   rw [← hHH] at hSr hml
   have hkH : (k : Int) < (HH.length : Int) := by omega
   have HHH := hid hHH; have HML := hid hml
   clear hql hqs hsl hHH hml hS2
   have kc : ∀ V : World, (Below w.heap.size w V ∧ V.heap[Pb]? = some (.cells #[.slice (some ⟨G, 0, none⟩) n n] 29)) → V.cell? ⟨Pb, 0, none⟩ = some (.slice (some ⟨G, 0, none⟩) n n) := fun V h => by simp [World.cell?, h.2]
   go_wp2_with fail
   refine wp_regionK (C := (fun V => Below w.heap.size w V ∧ V.heap[Pb]? = some (.cells #[.slice (some ⟨G, 0, none⟩) n n] 29))) [0, 1, 2] [_, _, _] 3 (by simp only [List.map_cons, List.map_nil, List.getElem?_toArray]; rfl) rfl kR kR kR (⟨hSr.b.drew, qb⟩) ?_
   refine ⟨_, yieldsK_cellC F_sls (fun V h => kc V h) wU wU, ?_⟩
   go_frame
   refine ⟨.int .i64 (k : Int), yieldsK_val wU (fun w' => by first | (go_simp; done) | (go_simp; rfl)), ?_⟩
   go_frame
   refine ⟨.int .i64 (n : Int), yieldsK_val wU (fun w' => by first | (go_simp; done) | (go_simp; rfl)), ?_⟩
   go_frame
   unfold wpPureK
   have hVd : ({ wr with drawn := wr.drawn + 1 } : World) = wr.drew := rfl
   rw [hVd]
   have hSd := hSr.drew
   have hqd := (hSd.blk 0 rfl).1
   clear hVd hSr
   refine wpAnyC_on [3] kR (by simp) ?_
   simp only [List.forall_mem_cons, List.not_mem_nil, false_implies, implies_true, and_true]
   refine wpOp_of_list (by rw [List.getElem?_toArray]; rfl) ?_
   ((with_reducible refine wpList_makeL (c := cInt) (n) (0) E_ints cInt1 wU wU (by omega) (by omega) (hSd) ?_); intro ad2 w2 hS3)
   refine ⟨⟨hS3.b, (hS3.blk 1 rfl).1⟩, ?_⟩
   go_frame
   obtain ⟨g, eg, -, hcA, hfA, hS4⟩ := hS3.setOwn cSl1 2 rfl (k : Int) (by omega) hkH ((ad2, n, n) : SlH)
   cases eg
   rw [show ((k : Int)).toNat = k by omega] at hcA hfA hS4
   refine wpAnyC_on [4] kR (by simp) ?_
   simp only [List.forall_mem_cons, List.not_mem_nil, false_implies, implies_true, and_true]
   refine wpOp_value (v := .pointer (some ⟨G, k, none⟩)) (w' := w2) (by rw [List.getElem?_toArray]; rfl) wU (by first | (go_simp; done) | (go_simp; rfl) | (simp [execOp, Act.eval, Result.andThen]; done)) ?_
   refine ⟨⟨hS3.b, (hS3.blk 1 rfl).1⟩, ?_⟩
   go_frame
   refine wpAnyC_on [5] kR (by simp) ?_
   simp only [List.forall_mem_cons, List.not_mem_nil, false_implies, implies_true, and_true]
   refine wpOp_of_list (by rw [List.getElem?_toArray]; rfl) ?_
   have hcB : w2.cell? ⟨G, k, none⟩ = some (cSl (HH[k]'(by omega))) := by rw [hcA]; simp [show k < HH.length by omega]
   refine wpList_stoAt (sto_sl ((ad2, n, n) : SlH) _ _) wU wU hcB hfA ?_
   refine ⟨⟨hS4.b, (hS4.blk 1 rfl).1⟩, ?_⟩
   go_frame
   refine wpAnyC_rest [] [] rfl rfl kR kR kR ⟨hS4.b, (hS4.blk 1 rfl).1⟩ ?_
   unfold wpPure
   refine of_wpList_nil (P := Tryz.prog) (ops := #[]) ?_
   have hfin : SL w.heap.size w (w2.setCell ⟨G, k, none⟩ (cSl ((ad2, n, n) : SlH))) (pBlk Pb (.cells #[.slice (some ⟨G, 0, none⟩) n n] 29) :: pOwn cSl 1 22 (.slice (some ⟨G, 0, none⟩) n n) (mxH n (k + 1) (qs ++ [((ad2, n, n), List.replicate n 0)])) :: (qs ++ [((ad2, n, n), List.replicate n 0)]).map inP) := by
    have e1 := mxH_set HQL.out hlt (((ad2, n, n) : SlH), List.replicate n (0 : Int))
    rw [← HHH.out] at e1
    rw [← e1, List.map_append]
    exact hS4.comm (K := [pOwn cInt 1 3 (.slice ad2 n n) (List.replicate n 0)])
   clear hS4 hS3 hcA hfA
   generalize (w2.setCell ⟨G, k, none⟩ (cSl ((ad2, n, n) : SlH))) = w5 at *
   go_wp2_with fail
   exact ⟨⟨k + 1, qs ++ [((ad2, n, n), List.replicate n 0)], by omega, by go_num, by rw [List.length_append, HQL.out]; rfl, by rw [List.map_append, HQS.out, List.replicate_succ']; rfl, hfin⟩, by simp [intOf]; omega⟩
  ·have hkk : k = n := by omega
   subst hkk
   rw [mxH_full] at hSr
   clear hS2
   go_wp2_with fail
   have hz0 : mxQ (qs.map Prod.fst) (zeroM k) = qs := by unfold mxQ zeroM; rw [← hqs]; exact zip_back qs
   obtain ⟨H, hH⟩ : ∃ H, H = qs.map Prod.fst := ⟨_, rfl⟩
   have hHl : H.length = k := by rw [hH, List.length_map]; exact hql
   have hS3 : linkI w Pb G k H (zeroM k) wr := by
    unfold linkI
    rw [hH, hz0]
    exact hSr
   clear hSr hz0 hH hqs hql hlt hk
   obtain ⟨Pn, hPn⟩ : ∃ P, P = wr.heap.size := ⟨_, rfl⟩
   have hB : ∀ (a : Int) (g n' c : Nat), 0 ≤ a → a < k → atD ((none, 0, 0) : SlH) H a = (some ⟨g, 0, none⟩, n', c) → w.heap.size ≤ g ∧ g < Pn := by
    intro a g n' c a0 a1 e
    obtain ⟨g', c', e', -, h1, h2, -⟩ := mx_row (pre := [_, _]) hS3 hHl (zeroM_mx k) a0 a1
    rw [e] at e'
    cases e'
    exact ⟨h1, by rw [hPn]; exact h2⟩
   have hHb : ∀ h ∈ H, ∀ b, (cSl h).ownBlock = some b → b < Pn := by
    intro h hh b hb
    obtain ⟨i, hi, rfl⟩ := List.getElem_of_mem hh
    obtain ⟨g', c', e', -, h1, h2, -⟩ := mx_row (pre := [_, _]) hS3 hHl (zeroM_mx k) (a := (i : Int)) (by omega) (by omega)
    have e2 : atD ((none, 0, 0) : SlH) H (i : Int) = H[i] := by simp [atD, hi]
    rw [← e2, e'] at hb
    cases hb
    rw [hPn]; exact h2
   have hPbn : Pb < Pn := by rw [hPn]; exact (hS3.blk 0 rfl).2.2
   refine (crossings_any5 ad ws.length cap k _).mono ?_
   rintro e w4 ⟨rfl, rfl⟩
   go_wp2_with fail
   have hS4 := (SL.al hS3 (.cells #[.int .i64 k] 3)).al (.cells #[.slice ad ws.length cap] 22)
   rw [← hPn]
   have cWn : ((wr.alloc (.cells #[.int .i64 k] 3)).alloc (.cells #[.slice ad ws.length cap] 22)).cell? ⟨Pn, 0, none⟩ = some (.int .i64 k) := by
    have h1 := World.alloc_heap_new wr (.cells #[.int .i64 k] 3)
    have h2 := Below.heap_alloc (wr.alloc (.cells #[.int .i64 k] 3)) (.cells #[.slice ad ws.length cap] 22) Pn (by simp [hPn])
    rw [← hPn] at h1
    simp [World.cell?, h2, h1]
   have cWw : ((wr.alloc (.cells #[.int .i64 k] 3)).alloc (.cells #[.slice ad ws.length cap] 22)).cell? ⟨Pn + 1, 0, none⟩ = some (.slice ad ws.length cap) := by
    have h1 := World.alloc_heap_new (wr.alloc (.cells #[.int .i64 k] 3)) (.cells #[.slice ad ws.length cap] 22)
    rw [World.size_alloc, ← hPn] at h1
    simp [World.cell?, h1]
   have hS := HS.out
   have hR4 := hS.below hS4.b
   have hz4 : ((wr.alloc (.cells #[.int .i64 k] 3)).alloc (.cells #[.slice ad ws.length cap] 22)).heap.size = Pn + 2 := by simp [hPn]
   clear hS3 hPn hbP
   generalize ((wr.alloc (.cells #[.int .i64 k] 3)).alloc (.cells #[.slice ad ws.length cap] 22)) = w4 at *
   have hK : ∀ j, crK Pn (Pn + 1) ad ws.length j → j < w4.heap.size := by
    rintro j (rfl | rfl | ⟨h, b, rfl, rfl⟩)
    ·omega
    ·omega
    ·obtain ⟨b', o', hb', hcx⟩ := hR4.cells (by decide) 0 0 h
     have hcx := hcx 0 (.int .i64 (atD 0 ws 0)) rfl
     cases hb'
     exact World.block_lt_of_cell? _ _ hcx
   have hGK : ∀ g, w.heap.size ≤ g → g < Pn → ¬ crK Pn (Pn + 1) ad ws.length g := by
    rintro g hg1 hg2 (h | h | ⟨h, b, rfl, rfl⟩)
    ·omega
    ·omega
    ·obtain ⟨b', o', hb', hcx⟩ := hS.cells (by decide) 0 0 h
     have hcx := hcx 0 (.int .i64 (atD 0 ws 0)) rfl
     cases hb'
     have := World.block_lt_of_cell? _ _ hcx
     have hbk : b' < w.heap.size := this
     exact absurd hbk (Nat.not_lt.2 hg1)
   have hz4l : w4.heap.size ≤ Pn + 2 ∧ Pn + 2 ≤ w4.heap.size := ⟨by omega, by omega⟩
   clear hz4
   have hzw := hS4.z
   have HHL := hid hHl; have HB := hid hB; have HGK := hid hGK
   clear hHl hB hGK hS
   refine (wpIn_wide (n := 9)).1 ?_
   refine rangeFunc_cells rfl (by decide) (gf := 160) (lb := #[.pointer (some ⟨Pn, 0, none⟩), .pointer (some ⟨Pn + 1, 0, none⟩)]) rfl trivial (enters_of Tryz.func160 kR rfl)
    (crossings_cells 8 Pn (Pn + 1) cap ad k ws (by omega) hl HF.out (by decide) w4 cWn cWw hR4) hK (Below.refl _ _) (fun _ => rfl)
    (fun pre W => linkI w Pb G k H (linkF' k pre) W) (linkI_ahead hzw (by omega) (by omega) (fun h hh b hb => by have := hHb h hh b hb; omega) _) hS4 ?rnd ?done
   case rnd =>
    as_aux_lemma =>
    intro l pre x W hI hz hlen
    obtain ⟨⟨hx0, hx1⟩, ⟨hxa0, hxa1⟩, ⟨hxb0, hxb1⟩, hxne⟩ := x.2
    have hok := linkF_ok (n := k) pre
    have hsn := linkF_snoc pre x
    obtain ⟨MF, hMF⟩ : ∃ MF, MF = linkF' k (pre ++ [x]) := ⟨_, rfl⟩
    rw [← hMF] at hsn ⊢
    clear hMF
    have hpl : pre.length ≤ 1048576 := by omega
    generalize pre.length = pl at *
    generalize linkF' k pre = M at *
    dsimp only [crV]
    generalize x.1.1 = xl at *
    generalize x.1.2.1 = xa at *
    generalize x.1.2.2 = xb at *
    clear x
    have HXL : Hid (xl ≠ 0) := hid (fun e => by rw [e] at hx0; simp [absI] at hx0)
    have HSG : Hid (∀ w' : World, Calls Tryz.prog 113 #[.int .i64 xl] w' fun e w'' => e = .returned (.int .i64 (sgnI xl)) ∧ Below w'.heap.size w' w'') := hid fun w' => (bsign_any xl w' HXL.out).mono fun e w'' h => ⟨h.1, by rw [← h.2]; exact Below.refl _ _⟩
    unfold linkI at hI
    gi_wp2
    refine ⟨KeepNew.grown (World.grownBy_alloc W _ none) (fun _ h => by cases h), hI.al _, ?_⟩
    intro W2 hg2 hI2
    unfold linkI at hI2
    have hbx : W2.heap[W.heap.size]? = some (.cells #[.int .i64 xa, .int .i64 xb] 67) := (hg2.block _ (by simp) (by simp; omega)).trans (heap_alloc_new W _)
    generalize hbxs : W.heap.size = bx at *
    have HSN := hid hsn
    have HM := hid (⟨hok.1, fun a b => ⟨by have := (hok.2 a b).1; omega, by have := (hok.2 a b).2; omega⟩⟩ : Mx k M ∧ MxB M 2097152)
    have HBX := hid hbxs
    clear hsn hok hbxs hx0 hx1 hxne hI hlen hpl
    apply wpIn_block
    apply wpIn_seq_k
    intro K hK2
    have hRo := hI2.rd 1 rfl
    have qb := (hI2.blk 0 rfl).1
    obtain ⟨ga, ca, eHa, hRa, hgloa, -, -⟩ := mx_row (pre := [_, _]) hI2 HHL.out HM.out.1 hxa0 hxa1
    have hgB := HB.out xa ga k ca hxa0 hxa1 eHa
    have hgK := HGK.out ga hgB.1 hgB.2
    have hHa : xa < (H.length : Int) := by rw [HHL.out]; exact hxa1
    have hrl := mx_getD HM.out.1 (a := xa.toNat) (by omega)
    have hrb : xb < ((M.getD xa.toNat []).length : Int) := by rw [hrl]; exact hxb1
    obtain ⟨rowa, hrowa⟩ : ∃ r, r = M.getD xa.toNat [] := ⟨_, rfl⟩
    rw [← hrowa] at hRa hrl hrb
    have hent := HM.out.2 xa xb
    rw [← hrowa] at hent
    obtain ⟨ent, hentE⟩ : ∃ e, e = atD 0 rowa xb := ⟨_, rfl⟩
    rw [← hentE] at hent
    have hsb := sgnI_b xl
    have hwa : IntKind.i64.wrap (ent + sgnI xl) = ent + sgnI xl := IntWalk.i64_in _ (by omega)
    have HEH := hid eHa; have HRL := hid hrl; have HROW := hid hrowa; have HENT := hid hentE
    clear eHa hrl hrowa hentE hent hsb
    refine wpIn_region_qtR 13 rfl kR kR ?_
    simp only [List.take_succ_cons, List.take_zero, List.drop_succ_cons, List.drop_zero]
    repeat (first | ((with_reducible refine wpB_load F_sls wU wU (by assumption) wU ?_); (try simp only [Act.put, pA, pB, pC])) | (((with_reducible refine wpB_idx2 ((none, 0, 0) : SlH) E_sls F_sl cSl1 wU (HHL.out) wU (hRo) oD oD (fun _ => wU) (fun _ => ?_)); (try simp only [Act.put, pA, pB, pC]); (try simp only [cInt])); rw [HEH.out]) | (((with_reducible refine wpB_idx2 0 E_ints F_int cInt1 wU (HRL.out) wU (hRa) oD oD (fun _ => wU) (fun _ => ?_)); (try simp only [Act.put, pA, pB, pC]); (try simp only [cInt])); rw [← HENT.out]) | ((refine wpB_call (.int .i64 (sgnI xl)) wU (fun w' => ?_) (fun w' hw' => HSG.out w') ?_); (focus (go_simp; done)); (try simp only [Act.put, pA, pB, pC])) | ((with_reducible refine wpB_ix E_ints wU wU hxb0 hxb1 ?_); (try simp only [Act.put, pA, pB, pC])) | ((with_reducible refine wpB_load (by first | exact F_int | exact F_u64s) wU wU (by assumption) wU ?_); (try simp only [Act.put, pA, pB, pC])) | ((refine wpQ_oneG ?_ wU (fun w' => ?_) ?_); rotate_left; (go_simp; rfl); (try simp only [Act.put, pA, pB, pC])))
    refine wpQuiet_nil ?_
    intro wa hba
    have hIq := hI2.mono hba
    obtain ⟨g', c', e', -, -, hg2', hent⟩ := mx_row (pre := [_, _]) hIq HHL.out HM.out.1 hxa0 hxa1
    rw [HEH.out] at e'
    cases e'
    obtain ⟨hcS, hfS, hstS⟩ := hent xb hxb0 hxb1
    have hI5 := hstS (sgnI xl)
    rw [← HROW.out, ← HENT.out] at hcS
    rw [← HROW.out, ← HENT.out] at hI5
    have gg : W2.grownBy (wa.setCell ⟨ga, xb.toNat, none⟩ (.int .i64 (ent + sgnI xl))) (some ga) := (show World.grownBy _ wa (some ga) from ⟨hba.os, hba.tape, hba.output, hba.size, fun i hi _ => hba.block i hi⟩).trans (grown_setG _ _ _ _)
    clear hent hstS hIq qb hRo hRa hrb hHa
    refine wpList_stoAt (sto_int (ent + sgnI xl) _ _) wU wU hcS hfS ?_
    refine ⟨rfl, hK2 _ _ ?_⟩
    obtain ⟨w5, hw5⟩ : ∃ w5, w5 = wa.setCell ⟨ga, xb.toNat, none⟩ (.int .i64 (ent + sgnI xl)) := ⟨_, rfl⟩
    have hI5' : SL w.heap.size w w5 ([pBlk Pb (.cells #[.slice (some ⟨G, 0, none⟩) k k] 29), pOwn cSl 1 22 (.slice (some ⟨G, 0, none⟩) k k) H] ++ (mxQ H (addE M xa xb (sgnI xl))).map inP) := by rw [hw5]; exact hI5
    have g5 : W2.grownBy w5 (some ga) := by rw [hw5]; exact gg
    show Code.wpIn _ _ _ _ _ _ (wa.setCell ⟨ga, xb.toNat, none⟩ (.int .i64 (ent + sgnI xl)))
    rw [← hw5]
    have hne : bx ≠ ga := by have := HBX.out; omega
    have hbx5 : w5.heap[bx]? = some (.cells #[.int .i64 xa, .int .i64 xb] 67) := (g5.block bx (Array.getElem?_eq_some_iff.1 hbx).1 (fun e => hne (Option.some.inj e))).trans hbx
    have HM5 := hid (⟨addE_mx HM.out.1 (by omega) xb (sgnI xl), by have := addE_b HM.out.2 xa xb (sgnI_b xl); exact this⟩ : Mx k (addE M xa xb (sgnI xl)) ∧ MxB (addE M xa xb (sgnI xl)) (2097152 + 1))
    have gK5 : KeepNew (crK Pn (Pn + 1) ad ws.length) w4.heap.size W2 w5 := KeepNew.grown g5 (fun r e => by cases e; exact ⟨by omega, hgK⟩)
    obtain ⟨M5, hM5⟩ : ∃ M5, M5 = addE M xa xb (sgnI xl) := ⟨_, rfl⟩
    rw [← hM5] at hI5' HM5
    have HM5E := hid hM5
    clear hM5 hI5 hI2 hw5 gg g5 hbx hcS hfS HEH HRL HROW HENT hwa hgK hgB hne
    have hRo := hI5'.rd 1 rfl
    have qb := (hI5'.blk 0 rfl).1
    obtain ⟨gb, cb, eHb, hRb, hglob, -, -⟩ := mx_row (pre := [_, _]) hI5' HHL.out HM5.out.1 hxb0 hxb1
    have hgB := HB.out xb gb k cb hxb0 hxb1 eHb
    have hgK := HGK.out gb hgB.1 hgB.2
    have hHa : xb < (H.length : Int) := by rw [HHL.out]; exact hxb1
    have hrl := mx_getD HM5.out.1 (a := xb.toNat) (by omega)
    have hrb : xa < ((M5.getD xb.toNat []).length : Int) := by rw [hrl]; exact hxa1
    obtain ⟨rowb, hrowb⟩ : ∃ r, r = M5.getD xb.toNat [] := ⟨_, rfl⟩
    rw [← hrowb] at hRb hrl hrb
    have hent := HM5.out.2 xb xa
    rw [← hrowb] at hent
    obtain ⟨ent, hentE⟩ : ∃ e, e = atD 0 rowb xa := ⟨_, rfl⟩
    rw [← hentE] at hent
    have hsb := sgnI_b xl
    have hwb : IntKind.i64.wrap (ent + sgnI xl) = ent + sgnI xl := IntWalk.i64_in _ (by omega)
    have HEH := hid eHb; have HRL := hid hrl; have HROW := hid hrowb; have HENT := hid hentE
    clear eHb hrl hrowb hentE hent hsb
    refine wpIn_region_qtR 13 rfl kR kR ?_
    simp only [List.take_succ_cons, List.take_zero, List.drop_succ_cons, List.drop_zero]
    repeat (first | ((with_reducible refine wpB_load F_sls wU wU (by assumption) wU ?_); (try simp only [Act.put, pA, pB, pC])) | (((with_reducible refine wpB_idx2 ((none, 0, 0) : SlH) E_sls F_sl cSl1 wU (HHL.out) wU (hRo) oD oD (fun _ => wU) (fun _ => ?_)); (try simp only [Act.put, pA, pB, pC]); (try simp only [cInt])); rw [HEH.out]) | (((with_reducible refine wpB_idx2 0 E_ints F_int cInt1 wU (HRL.out) wU (hRb) oD oD (fun _ => wU) (fun _ => ?_)); (try simp only [Act.put, pA, pB, pC]); (try simp only [cInt])); rw [← HENT.out]) | ((refine wpB_call (.int .i64 (sgnI xl)) wU (fun w' => ?_) (fun w' hw' => HSG.out w') ?_); (focus (go_simp; done)); (try simp only [Act.put, pA, pB, pC])) | ((with_reducible refine wpB_ix E_ints wU wU hxa0 hxa1 ?_); (try simp only [Act.put, pA, pB, pC])) | ((with_reducible refine wpB_load (by first | exact F_int | exact F_u64s) wU wU (by assumption) wU ?_); (try simp only [Act.put, pA, pB, pC])) | ((refine wpQ_oneG ?_ wU (fun w' => ?_) ?_); rotate_left; (go_simp; rfl); (try simp only [Act.put, pA, pB, pC])))
    refine wpQuiet_nil ?_
    intro wb hbb
    have hIq := hI5'.mono hbb
    obtain ⟨g', c', e', -, -, hg2', hent⟩ := mx_row (pre := [_, _]) hIq HHL.out HM5.out.1 hxb0 hxb1
    rw [HEH.out] at e'
    cases e'
    obtain ⟨hcS, hfS, hstS⟩ := hent xa hxa0 hxa1
    have hI5 := hstS (sgnI xl)
    rw [← HROW.out, ← HENT.out] at hcS
    rw [← HROW.out, ← HENT.out] at hI5
    have gg : w5.grownBy (wb.setCell ⟨gb, xa.toNat, none⟩ (.int .i64 (ent + sgnI xl))) (some gb) := (show World.grownBy _ wb (some gb) from ⟨hbb.os, hbb.tape, hbb.output, hbb.size, fun i hi _ => hbb.block i hi⟩).trans (grown_setG _ _ _ _)
    clear hent hstS hIq qb hRo hRb hrb hHa
    refine wpList_stoAt (sto_int (ent + sgnI xl) _ _) wU wU hcS hfS ?_
    refine ⟨rfl, ?_⟩
    refine ⟨rfl, gK5.trans (KeepNew.grown gg (fun r e => by cases e; exact ⟨by omega, hgK⟩)), ?_⟩
    unfold linkI
    rw [HSN.out]
    have e6 : addM M xa xb (sgnI xl) = addE M5 xb xa (sgnI xl) := by unfold addM; rw [HM5E.out]
    rw [e6]
    exact hI5
   case done =>
    intro D ys W hD hys hI hKd
    have hfin := linkF_end ys hys
    unfold linkI at hI
    rw [hfin] at hI
    have hs := hI.addMark (C := w4.heap.size) (by
     intro q hq
     rcases List.mem_append.1 hq with hq | hq
     ·simp only [List.mem_cons, List.not_mem_nil, or_false] at hq
      rcases hq with rfl | rfl
      ·exact okT_cells
      ·exact okT_own
     ·obtain ⟨x, _, rfl⟩ := List.mem_map.1 hq
      exact okT_own) hzw hD hKd
    have hc := hs.cell 1 rfl 0 rfl
    clear hI hfin hys
    dsimp only
    go_wp2_with fail
    refine SL.leave (L := [_, _] ++ (mxQ H (linkL k ws)).map inP) (fun V hV => ⟨.slice (some ⟨G, 0, none⟩) k k, ?_, _, H, rfl, HHL.out, hV.tail⟩) [D] W hs
    simp [results, Tryz.f46, go_sem]
end Go.Proofs.YtngpopalpofhgaaGreatDoor

namespace Go.Proofs.YtngpopalpofhgaaGreatDoor
open Go.RowKit
set_option maxHeartbeats 8000000
set_option maxRecDepth 100000
theorem bLink_any (n : Nat) (a : Option Addr) (cap : Nat) (l : List Int) (w : World) (hS : Ints w a cap l) (h : wordE (n : Int) l = 0) :
  Calls Tryz.prog 10 #[.int .i64 n, .slice a l.length cap] w fun r w' => ∃ (v : Value) (H : List SlH), r = .returned (.tuple #[v, .int .i64 0]) ∧ H.length = n ∧ SL w.heap.size w w' ([pOwn cSl 1 22 v H] ++ (mxQ H (linkL n l)).map inP) := by
 obtain ⟨hn1, hn2, hl, _⟩ := wordE_fits h
 have CW := fun w (hS : Ints w a cap l) => CheckWord_any n a cap l w hS (by omega)
 rw [h] at CW
 have HW := hid CW
 have HP := hid (fun w (hS : Ints w a cap l) => link_any5 a cap n l w (by omega) (by omega) (by omega) (word_rng h) hS)
 have hS0 := SL.nil w
 clear CW h
 go_enter Tryz.func10, Tryz.ntmps10
 go_wp2_with fail
 refine (HW.out _ hS).mono ?_
 rintro e w1 ⟨rfl, b1⟩
 have hS1 := hS0.mono b1
 clear hS0
 go_wp2_with fail
 refine (HP.out _ (hS.below b1)).mono ?_
 rintro e w2 ⟨v2, H, rfl, hH, ho2⟩
 have hS2 := hS1.call ho2
 rw [List.append_nil] at hS2
 clear hS1 ho2
 go_wp2_with fail
 go_ret2
 exact ⟨v2, H, rfl, hH, hS2⟩
end Go.Proofs.YtngpopalpofhgaaGreatDoor
