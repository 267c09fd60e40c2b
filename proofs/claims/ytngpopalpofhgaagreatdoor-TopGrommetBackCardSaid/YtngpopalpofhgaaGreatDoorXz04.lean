/- Contracts and plain facts that the claim uses (CiA EnP MaP MaQ MbP MbQ MbR MaA MaB MaD). Conditions: as each one states. -/
import Derived.Test.YtngpopalpofhgaaGreatDoorProg
import Derived.WalkKit
import Derived.WalkSpells
import Derived.Maps.AppendAt
import Derived.Deep.Quiet
import Derived.Maps.Own
import Derived.Maps.OwnSet
import Derived.Maps.Views
import Derived.WalkLawsBesides
import Derived.Laws.EntriesVeiled
import Derived.Deep.QuietTactic
import Derived.BigQuiet
import Derived.RangeFuncNested
import Derived.RangeFuncBound
import Derived.RangeFuncCalls
import Derived.RangeFuncLeaves
import Derived.RangeFuncFrom
import Derived.Shelf.Abstract
import Derived.Shelf.RegionOpen
import Derived.OwnWalkIn
import Derived.TacticsInMore
import Derived.LoopNIn
import Derived.LoopIn
import Derived.Shelf.Strings.Trim
import Derived.Shelf.Strings.SlTrimAscii
import Derived.Shelf.Strings.Repeat
import Derived.Shelf.Strings.OnBuilder
import Derived.Shelf.Strconv.Itoa1
import Derived.Shelf.Strconv.Itoa3
import Derived.Shelf.LaysM
import Derived.Ground.Names2Prog
import Derived.Lib.OthersKept
import Derived.Deep.RegionHeld3
import Derived.Deep.AppendLies
import Derived.Deep.RegionHeldLaw
import Derived.Deep.RegionLaw
import Derived.StillTail
import Derived.Laws.Tables
import Derived.IntWalk
import Derived.Laws.CopyOwn
import Derived.BigRegion
import Derived.ChangeAlike
import Derived.Shelf.Bits.Mul64
import Derived.Lib.ItoaLen
import Derived.Lib.ItoaMem
import Derived.Sort.LoopGhostIn
import Derived.Maps.RangeWalk
import Derived.Test.YtngpopalpofhgaaGreatDoorXz01
import Derived.Test.YtngpopalpofhgaaGreatDoorXz02
import Derived.Test.YtngpopalpofhgaaGreatDoorXz03
set_option linter.all false

namespace Go.Proofs.YtngpopalpofhgaaGreatDoor
open Go.RowKit
set_option maxHeartbeats 1000000
set_option maxRecDepth 100000

structure Stand (l : List Int) : Prop where
 lo : 4 ≤ l.length
 hi : l.length ≤ 64
 rng : ∀ x ∈ l, 0 ≤ x ∧ x ≤ 64
 ne : ∀ i j : Int, 0 ≤ i → i < l.length → 0 ≤ j → j < l.length → atD 0 l i ≠ 0 → atD 0 l i = atD 0 l j → i = j

def sw (f t j : Int) : Int := if j = f then t else if j = t then f else j
theorem sw_rng {n f t j : Int} (hf : 0 ≤ f ∧ f < n) (ht : 0 ≤ t ∧ t < n) (hj : 0 ≤ j ∧ j < n) : 0 ≤ sw f t j ∧ sw f t j < n := by
 unfold sw; split
 ·exact ht
 ·split
  ·exact hf
  ·exact hj
theorem sw_sw (f t j : Int) : sw f t (sw f t j) = j := by
 unfold sw
 by_cases h1 : j = f
 ·subst h1; by_cases h2 : t = j <;> simp [h2]
 ·by_cases h2 : j = t
  ·subst h2; simp [h1]
  ·simp [h1, h2]
theorem legalN_iff {l : List Int} {f t : Int} : legalN l f t = 0 ↔ (0 ≤ f ∧ f < l.length) ∧ (0 ≤ t ∧ t < l.length) ∧ atD 0 l f ≠ 0 ∧ atD 0 l t = 0 := by
 unfold legalN inB
 by_cases h1 : (decide (0 ≤ f) && decide (f < (l.length : Int)) && (decide (0 ≤ t) && decide (t < (l.length : Int)))) = true
 ·rw [if_pos h1]
  simp only [Bool.and_eq_true, decide_eq_true_eq] at h1
  by_cases h2 : atD 0 l f = 0
  ·rw [if_neg (by simp [h2])]; constructor
   ·intro h; omega
   ·intro h; exact absurd h2 h.2.2.1
  ·rw [if_pos (by simpa using h2)]
   by_cases h3 : atD 0 l t = 0
   ·rw [if_pos (by simp [h3])]; exact ⟨fun _ => ⟨h1.1, h1.2, h2, h3⟩, fun _ => rfl⟩
   ·rw [if_neg (by simpa using h3)]; constructor
    ·intro h; omega
    ·intro h; exact absurd h.2.2.2 h3
 ·rw [if_neg h1]
  simp only [Bool.and_eq_true, decide_eq_true_eq] at h1
  constructor
  ·intro h; omega
  ·intro h; exact absurd ⟨h.1, h.2.1⟩ h1
theorem nextL_length (l : List Int) (f t : Int) : (nextL l f t).length = l.length := by simp [nextL]
theorem nextL_at {l : List Int} {f t : Int} (h : legalN l f t = 0) {j : Int} (hj : 0 ≤ j) : atD 0 (nextL l f t) j = atD 0 l (sw f t j) := by
 obtain ⟨hf, ht, hf0, ht0⟩ := legalN_iff.1 h
 unfold nextL sw
 rw [atD_set hf.1 (by simp; exact hf.2) hj, atD_set ht.1 ht.2 hj]
 by_cases h1 : j = f
 ·rw [if_pos h1, if_pos h1, ht0]
 ·rw [if_neg h1, if_neg h1]; split <;> rfl

/-- all moves are legal, one after the other. -/
def okAll : List Int → List (Int × Int) → Prop
 | _, [] => True
 | s, m :: r => legalN s m.1 m.2 = 0 ∧ okAll (nextL s m.1 m.2) r
def runL : List Int → List (Int × Int) → List Int
 | s, [] => s
 | s, m :: r => runL (nextL s m.1 m.2) r
/-- from where the thread of a slot comes. -/
def mvT : List (Int × Int) → Int → Int
 | [], j => j
 | m :: r, j => sw m.1 m.2 (mvT r j)
theorem runL_len : ∀ (ms : List (Int × Int)) (s : List Int), (runL s ms).length = s.length
 | [], s => rfl
 | m :: r, s => by rw [runL, runL_len r, nextL_length]
/-- the same slots are free. -/
def free2 (s x : List Int) : Prop := x.length = s.length ∧ ∀ j : Int, 0 ≤ j → j < s.length → (atD 0 x j = 0 ↔ atD 0 s j = 0)
theorem free2_legal {s x : List Int} (h : free2 s x) {f t : Int} (hl : legalN s f t = 0) : legalN x f t = 0 := by
 obtain ⟨hf, ht, hf0, ht0⟩ := legalN_iff.1 hl
 refine legalN_iff.2 ⟨by rw [h.1]; exact hf, by rw [h.1]; exact ht, ?_, ?_⟩
 ·intro e; exact hf0 ((h.2 f hf.1 hf.2).1 e)
 ·exact (h.2 t ht.1 ht.2).2 ht0
theorem free2_next {s x : List Int} (h : free2 s x) {f t : Int} (hl : legalN s f t = 0) : free2 (nextL s f t) (nextL x f t) := by
 obtain ⟨hf, ht, _, _⟩ := legalN_iff.1 hl
 refine ⟨by rw [nextL_length, nextL_length, h.1], fun j j0 j1 => ?_⟩
 rw [nextL_length] at j1
 rw [nextL_at hl j0, nextL_at (free2_legal h hl) j0]
 obtain ⟨a, b⟩ := sw_rng hf ht ⟨j0, j1⟩
 exact h.2 _ a b
theorem free2_ok : ∀ (ms : List (Int × Int)) (s x : List Int), free2 s x → okAll s ms → okAll x ms
 | [], _, _, _, _ => trivial
 | m :: r, s, x, h, ho => ⟨free2_legal h ho.1, free2_ok r _ _ (free2_next h ho.1) ho.2⟩
theorem mvT_rng : ∀ (ms : List (Int × Int)) (s : List Int), okAll s ms → ∀ j : Int, 0 ≤ j → j < s.length → 0 ≤ mvT ms j ∧ mvT ms j < s.length
 | [], _, _, j, j0, j1 => ⟨j0, j1⟩
 | m :: r, s, h, j, j0, j1 => by
   obtain ⟨hf, ht, _, _⟩ := legalN_iff.1 h.1
   have := mvT_rng r (nextL s m.1 m.2) h.2 j j0 (by rw [nextL_length]; exact j1)
   rw [nextL_length] at this
   exact sw_rng hf ht this
theorem mvT_inj : ∀ (ms : List (Int × Int)) (i j : Int), mvT ms i = mvT ms j → i = j
 | [], _, _, h => h
 | m :: r, i, j, h => by
   rw [mvT, mvT] at h
   have := congrArg (sw m.1 m.2) h
   rw [sw_sw, sw_sw] at this
   exact mvT_inj r i j this
theorem runL_at : ∀ (ms : List (Int × Int)) (s : List Int), okAll s ms → ∀ j : Int, 0 ≤ j → j < s.length → atD 0 (runL s ms) j = atD 0 s (mvT ms j)
 | [], _, _, _, _, _ => rfl
 | m :: r, s, h, j, j0, j1 => by
   have hr := mvT_rng r (nextL s m.1 m.2) h.2 j j0 (by rw [nextL_length]; exact j1)
   rw [runL, runL_at r _ h.2 j j0 (by rw [nextL_length]; exact j1), nextL_at h.1 hr.1, mvT]
theorem stand_run {s : List Int} {ms : List (Int × Int)} (hs : Stand s) (h : okAll s ms) : Stand (runL s ms) := by
 refine ⟨by rw [runL_len]; exact hs.lo, by rw [runL_len]; exact hs.hi, ?_, ?_⟩
 ·intro x hx
  obtain ⟨i, hi, rfl⟩ := List.mem_iff_getElem.1 hx
  have e : (runL s ms)[i] = atD 0 (runL s ms) (i : Int) := by simp [atD, hi]
  rw [runL_len] at hi
  have hr := mvT_rng ms s h i (by omega) (by omega)
  rw [e, runL_at ms s h i (by omega) (by omega)]
  exact hs.rng _ (atD_memZ hr.1 hr.2)
 ·intro i j i0 i1 j0 j1 hne e
  rw [runL_len] at i1 j1
  rw [runL_at ms s h i i0 i1] at hne e
  rw [runL_at ms s h j j0 j1] at e
  have hi := mvT_rng ms s h i i0 i1
  have hj := mvT_rng ms s h j j0 j1
  exact mvT_inj ms i j (hs.ne _ _ hi.1 hi.2 hj.1 hj.2 hne e)

/-- what a round without an error does: the permutation leads each thread to its place. -/
structure RoundP (s : List Int) (ms : List (Int × Int)) (p : List Int) : Prop where
 st : Stand s
 ok : okAll s ms
 len : p.length = s.length
 sh : ∀ j : Int, 0 ≤ j → j < s.length → (atD 0 s j = 0 ↔ atD 0 (runL s ms) j = 0)
 fr : ∀ i : Int, 0 ≤ i → i < s.length → atD 0 s i = 0 → atD 0 p i = i
 rng : ∀ i : Int, 0 ≤ i → i < s.length → 0 ≤ atD 0 p i ∧ atD 0 p i < s.length
 mv : ∀ i : Int, 0 ≤ i → i < s.length → atD 0 s i ≠ 0 → mvT ms (atD 0 p i) = i
section
variable {s : List Int} {ms : List (Int × Int)} {p : List Int}
theorem RoundP.inj (h : RoundP s ms p) : ∀ i j : Int, 0 ≤ i → i < s.length → 0 ≤ j → j < s.length → atD 0 p i = atD 0 p j → i = j := by
 intro i j i0 i1 j0 j1 e
 have key : ∀ i j : Int, 0 ≤ i → i < s.length → 0 ≤ j → j < s.length → atD 0 p i = atD 0 p j → atD 0 s i = 0 → atD 0 s j ≠ 0 → False := by
  intro i j i0 i1 j0 j1 e hz hn
  rw [h.fr i i0 i1 hz] at e
  have hm := h.mv j j0 j1 hn
  rw [← e] at hm
  have := (h.sh i i0 i1).1 hz
  rw [runL_at ms s h.ok i i0 i1, hm] at this
  exact hn this
 by_cases a : atD 0 s i = 0
 ·by_cases b : atD 0 s j = 0
  ·rw [h.fr i i0 i1 a, h.fr j j0 j1 b] at e; exact e
  ·exact (key i j i0 i1 j0 j1 e a b).elim
 ·by_cases b : atD 0 s j = 0
  ·exact (key j i j0 j1 i0 i1 e.symm b a).elim
  ·rw [← h.mv i i0 i1 a, ← h.mv j j0 j1 b, e]
theorem RoundP.isP (h : RoundP s ms p) : IsP p :=
 ⟨fun x a b => by have := h.rng x a (by rw [← h.len]; exact b); rw [h.len]; exact this, fun x y a b c d e => h.inj x y a (by rw [← h.len]; exact b) c (by rw [← h.len]; exact d) e⟩

/-- one more round. -/
theorem RoundP.next (h : RoundP s ms p) {x : List Int} (hx : free2 s x) (hsx : Stand x) : okAll x ms ∧ free2 s (runL x ms) ∧ Stand (runL x ms) ∧ ∀ i : Int, 0 ≤ i → i < s.length → atD 0 (runL x ms) (atD 0 p i) = atD 0 x i := by
 have ho := free2_ok ms s x hx h.ok
 have hl := hx.1
 have hat : ∀ j : Int, 0 ≤ j → j < s.length → atD 0 (runL x ms) j = atD 0 x (mvT ms j) := fun j j0 j1 => runL_at ms x ho j j0 (by rw [hl]; exact j1)
 have hz : ∀ j : Int, 0 ≤ j → j < s.length → (atD 0 (runL x ms) j = 0 ↔ atD 0 s j = 0) := by
  intro j j0 j1
  have hr := mvT_rng ms s h.ok j j0 j1
  rw [hat j j0 j1, hx.2 _ hr.1 hr.2, h.sh j j0 j1, runL_at ms s h.ok j j0 j1]
 refine ⟨ho, ⟨by rw [runL_len, hl], hz⟩, stand_run hsx ho, ?_⟩
 intro i i0 i1
 obtain ⟨a, b⟩ := h.rng i i0 i1
 by_cases hn : atD 0 s i = 0
 ·rw [h.fr i i0 i1 hn]
  have h1 := (hz i i0 i1).2 hn
  have h2 := (hx.2 i i0 i1).2 hn
  rw [h1, h2]
 ·rw [hat _ a b, h.mv i i0 i1 hn]

def nowL (s : List Int) (ms : List (Int × Int)) : Nat → List Int
 | 0 => s
 | n + 1 => runL (nowL s ms n) ms
theorem RoundP.now (h : RoundP s ms p) : ∀ n, free2 s (nowL s ms n) ∧ Stand (nowL s ms n) ∧ ∀ i : Int, 0 ≤ i → i < s.length → atD 0 (nowL s ms n) (itP p i n) = atD 0 s i
 | 0 => ⟨⟨rfl, fun _ _ _ => Iff.rfl⟩, h.st, fun _ _ _ => rfl⟩
 | n + 1 => by
   obtain ⟨a, b, c⟩ := h.now n
   obtain ⟨_, d, e, f⟩ := h.next a b
   refine ⟨d, e, fun i i0 i1 => ?_⟩
   have hr := itP_rng h.isP i0 (by rw [h.len]; exact i1) n
   rw [h.len] at hr
   rw [nowL, itP, f _ hr.1 hr.2, c i i0 i1]
theorem RoundP.back (h : RoundP s ms p) (n : Nat) : nowL s ms n = s ↔ ∀ i : Int, 0 ≤ i → i < s.length → itP p i n = i := by
 obtain ⟨a, b, c⟩ := h.now n
 have hid : ∀ i : Int, 0 ≤ i → i < s.length → atD 0 s i = 0 → ∀ n, itP p i n = i := by
  intro i i0 i1 hz n
  induction n with
  | zero => rfl
  | succ n ih => rw [itP, ih]; exact h.fr i i0 i1 hz
 constructor
 ·intro e i i0 i1
  by_cases hz : atD 0 s i = 0
  ·exact hid i i0 i1 hz n
  ·have := c i i0 i1
   rw [e] at this
   have hr := itP_rng h.isP i0 (by rw [h.len]; exact i1) n
   rw [h.len] at hr
   exact (h.st.ne i _ i0 i1 hr.1 hr.2 hz this.symm).symm
 ·intro e
  refine ext_atD a.1 (fun j j0 j1 => ?_)
  rw [a.1] at j1
  have := c j j0 j1
  rwa [e j j0 j1] at this
end

theorem itP_mul {p : List Int} {i : Int} {d : Nat} (h : itP p i d = i) : ∀ q : Nat, itP p i (q * d) = i
 | 0 => by simp [itP]
 | q + 1 => by rw [Nat.succ_mul, itP_add, h, itP_mul h q]
end Go.Proofs.YtngpopalpofhgaaGreatDoor

namespace Go.Proofs.YtngpopalpofhgaaGreatDoor
open Go.RowKit
set_option maxHeartbeats 1000000
set_option maxRecDepth 100000

theorem permGo_ok (n : Nat) : ∀ (r seen : List Int), (∀ x ∈ r, 0 ≤ x ∧ x < n ∧ x ∉ seen) → r.Nodup → permGo n seen r = 0
 | [], _, _, _ => rfl
 | x :: r, seen, h, hn => by
   obtain ⟨h1, h2⟩ := List.nodup_cons.1 hn
   obtain ⟨a, b, c⟩ := h x (by simp)
   rw [permGo, if_neg (by rintro (d | d | d) <;> first | exact c d | omega)]
   refine permGo_ok n r _ (fun y hy => ?_) h2
   obtain ⟨d, e, f⟩ := h y (by simp [hy])
   refine ⟨d, e, fun g => ?_⟩
   rcases List.mem_append.1 g with g | g
   · exact f g
   · simp only [List.mem_singleton] at g
     subst g; exact h1 hy
theorem isP_mem {p : List Int} (hp : IsP p) : ∀ x ∈ p, 0 ≤ x ∧ x < p.length := by
 intro x hx
 obtain ⟨i, hi, rfl⟩ := List.mem_iff_getElem.1 hx
 have := hp.rng i (by omega) (by omega)
 simpa [atD, hi] using this
theorem isP_nodup {p : List Int} (hp : IsP p) : p.Nodup := by
 rw [List.Nodup, List.pairwise_iff_getElem]
 intro i j hi hj hij e
 have := hp.inj i j (by omega) (by omega) (by omega) (by omega) (by simpa [atD, hi, hj] using e)
 omega
theorem permE_ok {p : List Int} (hp : IsP p) (h : p.length ≤ 256) : permE p = 0 := by
 unfold permE
 rw [if_neg (by omega)]
 exact permGo_ok _ _ _ (fun x hx => ⟨(isP_mem hp x hx).1, (isP_mem hp x hx).2, by simp⟩) (isP_nodup hp)
theorem isP_surj {p : List Int} (hp : IsP p) {y : Int} (h0 : 0 ≤ y) (h1 : y < p.length) : ∃ i : Nat, i < p.length ∧ atD 0 p i = y := by
 obtain ⟨d, a, _, c⟩ := itP_back hp h0 h1
 obtain ⟨e, rfl⟩ : ∃ e, d = e + 1 := ⟨d - 1, by omega⟩
 have hr := itP_rng hp h0 h1 e
 exact ⟨(itP p y e).toNat, by omega, by rw [Int.toNat_of_nonneg hr.1]; exact c⟩

def row5 : List Int → List Int → List Int
 | st, [] => st
 | st, x :: r => row5 (swapL st (absI x)) r
theorem row5_len : ∀ (l st : List Int), (row5 st l).length = st.length
 | [], st => rfl
 | x :: r, st => by rw [row5, row5_len r, swapL_len]
theorem swapL_at {st : List Int} {k j : Int} (h1 : 1 ≤ k) (h2 : k < st.length) (hj : 0 ≤ j) : atD 0 (swapL st k) j = atD 0 st (sw (k - 1) k j) := by
 unfold swapL sw
 rw [atD_set (by omega) (by simp; omega) hj, atD_set (by omega) (by omega) hj]
 by_cases a : j = k
 ·subst a; rw [if_pos rfl, if_neg (by omega), if_pos rfl]
 ·rw [if_neg a, if_neg a]
  by_cases b : j = k - 1
  ·rw [if_pos b, if_pos b]
  ·rw [if_neg b, if_neg b]
theorem swapL_isP {st : List Int} {k : Int} (h1 : 1 ≤ k) (h2 : k < st.length) (h : IsP st) : IsP (swapL st k) := by
 refine ⟨fun x x0 x1 => ?_, fun x y x0 x1 y0 y1 e => ?_⟩
 ·rw [swapL_len] at x1 ⊢
  rw [swapL_at h1 h2 x0]
  obtain ⟨a, b⟩ := sw_rng (f := k - 1) (t := k) (n := st.length) ⟨by omega, by omega⟩ ⟨by omega, h2⟩ ⟨x0, x1⟩
  exact h.rng _ a b
 ·rw [swapL_len] at x1 y1
  rw [swapL_at h1 h2 x0, swapL_at h1 h2 y0] at e
  obtain ⟨a, b⟩ := sw_rng (f := k - 1) (t := k) (n := st.length) ⟨by omega, by omega⟩ ⟨by omega, h2⟩ ⟨x0, x1⟩
  obtain ⟨c, d⟩ := sw_rng (f := k - 1) (t := k) (n := st.length) ⟨by omega, by omega⟩ ⟨by omega, h2⟩ ⟨y0, y1⟩
  have := congrArg (sw (k - 1) k) (h.inj _ _ a b c d e)
  rwa [sw_sw, sw_sw] at this
theorem row5_isP : ∀ (l st : List Int), IsP st → (∀ x ∈ l, 1 ≤ absI x ∧ absI x < st.length) → IsP (row5 st l)
 | [], st, h, _ => h
 | x :: r, st, h, hf => by
   obtain ⟨a, b⟩ := hf x (by simp)
   rw [row5]
   exact row5_isP r _ (swapL_isP a b h) (fun y hy => by rw [swapL_len]; exact hf y (by simp [hy]))
theorem idL_at {n : Nat} {j : Int} (h0 : 0 ≤ j) (h1 : j < n) : atD 0 (idL n) j = j := by
 unfold idL atD
 rw [List.getD_eq_getElem?_getD, List.getElem?_map, List.getElem?_range (by omega)]
 simp; omega
theorem idL_isP (n : Nat) : IsP (idL n) := by
 refine ⟨fun x x0 x1 => ?_, fun x y x0 x1 y0 y1 e => ?_⟩
 ·rw [idL_len] at x1 ⊢; rw [idL_at x0 x1]; exact ⟨x0, x1⟩
 ·rw [idL_len] at x1 y1; rwa [idL_at x0 x1, idL_at y0 y1] at e
def invK (p : List Int) (k : Nat) : List Int := (List.range k).foldl (fun (o : List Int) (i : Nat) => o.set (atD 0 p i).toNat (i : Int)) (List.replicate p.length 0)
def invL (p : List Int) : List Int := invK p p.length
theorem invK_succ (p : List Int) (k : Nat) : invK p (k + 1) = (invK p k).set (atD 0 p k).toNat (k : Int) := by unfold invK; rw [List.range_succ, List.foldl_append]; rfl
theorem invK_len (p : List Int) : ∀ k, (invK p k).length = p.length
 | 0 => by simp [invK]
 | k + 1 => by rw [invK_succ, List.length_set, invK_len p k]
theorem invK_at {p : List Int} (hp : IsP p) : ∀ k, k ≤ p.length → ∀ i : Nat, i < k → atD 0 (invK p k) (atD 0 p i) = i
 | 0, _, i, h => by omega
 | k + 1, hk, i, h => by
   have hi := hp.rng i (by omega) (by omega)
   have hk1 := hp.rng k (by omega) (by omega)
   rw [invK_succ, atD_set hk1.1 (by rw [invK_len]; exact hk1.2) hi.1]
   by_cases e : i = k
   · subst e; rw [if_pos rfl]
   · rw [if_neg (fun e2 => e (by have := hp.inj i k (by omega) (by omega) (by omega) (by omega) e2; omega))]
     exact invK_at hp k (by omega) i (by omega)
theorem invL_len (p : List Int) : (invL p).length = p.length := invK_len p _
theorem invL_left {p : List Int} (hp : IsP p) {i : Int} (h0 : 0 ≤ i) (h1 : i < p.length) : atD 0 (invL p) (atD 0 p i) = i := by
 have := invK_at hp p.length (Nat.le_refl _) i.toNat (by omega)
 rwa [Int.toNat_of_nonneg h0] at this
theorem invL_right {p : List Int} (hp : IsP p) {y : Int} (h0 : 0 ≤ y) (h1 : y < p.length) : atD 0 p (atD 0 (invL p) y) = y := by
 obtain ⟨i, hi, rfl⟩ := isP_surj hp h0 h1
 rw [invL_left hp (by omega) (by omega)]
theorem invL_isP {p : List Int} (hp : IsP p) : IsP (invL p) := by
 refine ⟨fun y y0 y1 => ?_, fun x y x0 x1 y0 y1 e => ?_⟩
 ·rw [invL_len] at y1 ⊢
  obtain ⟨i, hi, rfl⟩ := isP_surj hp y0 y1
  rw [invL_left hp (by omega) (by omega)]; omega
 ·rw [invL_len] at x1 y1
  rw [← invL_right hp x0 x1, ← invL_right hp y0 y1, e]
end Go.Proofs.YtngpopalpofhgaaGreatDoor

namespace Go.Proofs.YtngpopalpofhgaaGreatDoor
set_option maxRecDepth 100000

/-- a machine. -/
structure MacV where
 ring : Bool
 gears : Int
 turn : Int
 sw : List Int
def sharedM (m : MacV) (p : Int) : Bool := (decide (0 ≤ p) && decide (p < m.gears)) && (m.ring || decide (0 < p))
def swGo (m : MacV) : Option Int → List Int → Int
 | _, [] => 0
 | o, s :: r => if sharedM m s = false then 10 else match o with
   | none => swGo m (some s) r
   | some b => if s ≤ b then 11 else swGo m (some s) r
/-- the error of a machine. -/
def macE (m : MacV) : Int :=
 if m.gears < 1 ∨ 16 < m.gears then 3 else if m.ring = true ∧ m.gears % 2 = 1 then 17 else if m.turn ≠ 1 ∧ m.turn ≠ -1 then 3 else if m.gears < m.sw.length then 5 else swGo m none m.sw
structure MacOk (m : MacV) : Prop where
 lo : 1 ≤ m.gears
 hi : m.gears ≤ 16
 even : m.ring = true → m.gears % 2 = 0
 turn : m.turn = 1 ∨ m.turn = -1
 many : m.sw.length ≤ m.gears
theorem macE_zero {m : MacV} (h : macE m = 0) : MacOk m ∧ swGo m none m.sw = 0 := by
 unfold macE at h
 split at h
 ·omega
 ·rename_i h1
  split at h
  ·omega
  ·rename_i h2
   split at h
   ·omega
   ·rename_i h3
    split at h
    ·omega
    ·rename_i h4
     refine ⟨⟨by omega, by omega, fun e => ?_, by omega, by omega⟩, h⟩
     have : ¬ m.gears % 2 = 1 := fun e2 => h2 ⟨e, e2⟩
     omega
def fwdM (m : MacV) (g : Int) : Bool := (m.turn == 1) == (g % 2 == 0)
/-- the place of a slot, or -1. -/
def placeM (m : MacV) (s : Int) : Int :=
 if s % 4 = 0 then s / 4 else if s % 4 = 2 then (if m.ring = true ∧ s / 4 + 1 = m.gears then 0 else s / 4 + 1) else -1
/-- the gear before a place. -/
def befM (m : MacV) (p : Int) : Int := if p = 0 then m.gears - 1 else p - 1
def goesM (m : MacV) (s : Int) : Bool := decide (0 ≤ placeM m s) && sharedM m (placeM m s) && !m.sw.contains (placeM m s)
def overM (m : MacV) (s : Int) : Int := if goesM m s then 4 * befM m (placeM m s) + 2 + 4 * placeM m s - s else s
def rotM (m : MacV) (s : Int) : Int := 4 * (s / 4) + (s % 4 + (if fwdM m (s / 4) then 1 else 3)) % 4
def nextM (m : MacV) (s : Int) : Int := overM m (rotM m s)

theorem place_prog {m : MacV} {s : Int} (h0 : 0 ≤ s) (h1 : s < 4 * m.gears) : (s / 4 + 1) % (m.gears + (if m.ring then 0 else 1)) = if m.ring = true ∧ s / 4 + 1 = m.gears then 0 else s / 4 + 1 := by
 cases hr : m.ring
 ·simp only [Bool.false_eq_true, if_false, false_and]
  exact Int.emod_eq_of_lt (by omega) (by omega)
 ·simp only [if_true, true_and, Int.add_zero]
  split
  ·rename_i h; rw [h]; exact Int.emod_self
  ·exact Int.emod_eq_of_lt (by omega) (by omega)
theorem bef_prog {m : MacV} {p : Int} (h0 : 0 ≤ p) (h1 : p < m.gears) : (p + m.gears - 1) % m.gears = befM m p := by
 unfold befM
 split
 ·rename_i h; subst h; rw [Int.zero_add]; exact Int.emod_eq_of_lt (by omega) (by omega)
 ·rw [show p + m.gears - 1 = (p - 1) + m.gears by omega, Int.add_emod_right]
  exact Int.emod_eq_of_lt (by omega) (by omega)
theorem shared_iff {m : MacV} {p : Int} : sharedM m p = true ↔ 0 ≤ p ∧ p < m.gears ∧ (m.ring = true ∨ 0 < p) := by
 unfold sharedM
 simp only [Bool.and_eq_true, Bool.or_eq_true, decide_eq_true_eq]
 exact and_assoc
/-- the two slots of a shared place. -/
theorem over_cases {m : MacV} {s : Int} (h0 : 0 ≤ s) (h1 : s < 4 * m.gears) : (goesM m s = false ∧ overM m s = s) ∨
  (goesM m s = true ∧ 0 ≤ overM m s ∧ overM m s < 4 * m.gears ∧ placeM m (overM m s) = placeM m s ∧ overM m s ≠ s ∧ overM m s = 4 * befM m (placeM m s) + 2 + 4 * placeM m s - s) := by
 cases hg : goesM m s
 ·exact .inl ⟨rfl, by unfold overM; rw [hg]; rfl⟩
 ·right
  have e : overM m s = 4 * befM m (placeM m s) + 2 + 4 * placeM m s - s := by unfold overM; rw [if_pos hg]
  unfold goesM at hg
  simp only [Bool.and_eq_true, decide_eq_true_eq] at hg
  obtain ⟨⟨hp0, hsh⟩, _⟩ := hg
  obtain ⟨_, hp1, hp2⟩ := shared_iff.1 hsh
  refine ⟨rfl, ?_⟩
  obtain ⟨p, hp⟩ : ∃ p, p = placeM m s := ⟨_, rfl⟩
  rw [← hp] at e hp0 hp1 hp2 ⊢
  rw [e]
  unfold placeM at hp ⊢
  unfold befM
  cases hr : m.ring
  ·simp only [hr, Bool.false_eq_true, false_and, if_false, false_or] at hp hp2 ⊢
   rw [if_neg (by omega)]
   split at hp
   ·subst hp
    refine ⟨by omega, by omega, ?_, by omega, trivial⟩
    rw [if_neg (by omega), if_pos (by omega)]; omega
   ·split at hp
    ·subst hp
     refine ⟨by omega, by omega, ?_, by omega, trivial⟩
     rw [if_pos (by omega)]; omega
    ·omega
  ·simp only [hr, true_and, true_or] at hp hp2 ⊢
   split at hp
   ·by_cases hz : p = 0
    ·rw [if_pos hz]
     refine ⟨by omega, by omega, ?_, by omega, trivial⟩
     rw [if_neg (by omega), if_pos (by omega), if_pos (by omega)]; omega
    ·rw [if_neg hz]
     refine ⟨by omega, by omega, ?_, by omega, trivial⟩
     rw [if_neg (by omega), if_pos (by omega), if_neg (by omega)]; omega
   ·split at hp
    ·split at hp
     ·subst hp
      rw [if_pos rfl]
      refine ⟨by omega, by omega, ?_, by omega, trivial⟩
      rw [if_pos (by omega)]; omega
     ·rw [if_neg (by omega)]
      refine ⟨by omega, by omega, ?_, by omega, trivial⟩
      rw [if_pos (by omega)]; omega
    ·omega
theorem over_rng {m : MacV} {s : Int} (h0 : 0 ≤ s) (h1 : s < 4 * m.gears) : 0 ≤ overM m s ∧ overM m s < 4 * m.gears := by
 rcases over_cases h0 h1 with ⟨_, e⟩ | ⟨_, a, b, _⟩
 ·rw [e]; exact ⟨h0, h1⟩
 ·exact ⟨a, b⟩
theorem over_over {m : MacV} {s : Int} (h0 : 0 ≤ s) (h1 : s < 4 * m.gears) : overM m (overM m s) = s := by
 rcases over_cases h0 h1 with ⟨_, e⟩ | ⟨hg, a, b, hp, _, e⟩
 ·rw [e, e]
 ·have hg2 : goesM m (overM m s) = true := by unfold goesM at hg ⊢; rw [hp]; exact hg
  rcases over_cases a b with ⟨hg3, _⟩ | ⟨_, _, _, _, _, e2⟩
  ·rw [hg2] at hg3; cases hg3
  ·rw [e2, hp, e]; omega
theorem rot_rng {m : MacV} {s : Int} (h0 : 0 ≤ s) (h1 : s < 4 * m.gears) : 0 ≤ rotM m s ∧ rotM m s < 4 * m.gears ∧ rotM m s / 4 = s / 4 ∧ rotM m s % 4 = (s % 4 + (if fwdM m (s / 4) then 1 else 3)) % 4 := by
 unfold rotM
 split <;> omega
theorem rot_inj {m : MacV} {s t : Int} (h0 : 0 ≤ s) (h1 : s < 4 * m.gears) (k0 : 0 ≤ t) (k1 : t < 4 * m.gears) (e : rotM m s = rotM m t) : s = t := by
 obtain ⟨_, _, a, b⟩ := rot_rng h0 h1
 obtain ⟨_, _, c, d⟩ := rot_rng k0 k1
 rw [e] at a b
 have hq : s / 4 = t / 4 := by omega
 rw [hq] at b
 split at b
 ·rename_i hf; rw [if_pos hf] at d; omega
 ·rename_i hf; rw [if_neg hf] at d; omega
theorem next_rng {m : MacV} {s : Int} (h0 : 0 ≤ s) (h1 : s < 4 * m.gears) : 0 ≤ nextM m s ∧ nextM m s < 4 * m.gears := by
 obtain ⟨a, b, _⟩ := rot_rng h0 h1
 exact over_rng a b
theorem next_inj {m : MacV} {s t : Int} (h0 : 0 ≤ s) (h1 : s < 4 * m.gears) (k0 : 0 ≤ t) (k1 : t < 4 * m.gears) (e : nextM m s = nextM m t) : s = t := by
 obtain ⟨a, b, _⟩ := rot_rng h0 h1
 obtain ⟨c, d, _⟩ := rot_rng k0 k1
 have := congrArg (overM m) e
 unfold nextM at this
 rw [over_over a b, over_over c d] at this
 exact rot_inj h0 h1 k0 k1 this
/-- the permutation of a step. -/
def permM (m : MacV) : List Int := (List.range (4 * m.gears).toNat).map fun (i : Nat) => nextM m i
theorem permM_len (m : MacV) : (permM m).length = (4 * m.gears).toNat := by simp [permM]
theorem permM_at {m : MacV} {s : Int} (h0 : 0 ≤ s) (h1 : s < 4 * m.gears) : atD 0 (permM m) s = nextM m s := by
 unfold permM atD
 have hs : s.toNat < (4 * m.gears).toNat := by omega
 rw [List.getD_eq_getElem?_getD, List.getElem?_map, List.getElem?_range hs]
 simp [Int.toNat_of_nonneg h0]
theorem permM_isP (m : MacV) : IsP (permM m) := by
 refine ⟨fun x h0 h1 => ?_, fun x y x0 x1 y0 y1 e => ?_⟩
 ·rw [permM_len] at h1
  rw [permM_at h0 (by omega), permM_len]
  have := next_rng (m := m) h0 (by omega)
  omega
 ·rw [permM_len] at x1 y1
  rw [permM_at x0 (by omega), permM_at y0 (by omega)] at e
  exact next_inj x0 (by omega) y0 (by omega) e
end Go.Proofs.YtngpopalpofhgaaGreatDoor

namespace Go.Proofs.YtngpopalpofhgaaGreatDoor
set_option maxRecDepth 100000

/-- where a carrier is after some steps. -/
def itM (m : MacV) (s : Int) (n : Nat) : Int := itP (permM m) s n
theorem itM_rng {m : MacV} {s : Int} (h0 : 0 ≤ s) (h1 : s < 4 * m.gears) (n : Nat) : 0 ≤ itM m s n ∧ itM m s n < 4 * m.gears := by
 have := itP_rng (permM_isP m) h0 (by rw [permM_len]; omega) n
 rw [permM_len] at this
 unfold itM
 omega
theorem itM_succ {m : MacV} {s : Int} (h0 : 0 ≤ s) (h1 : s < 4 * m.gears) (n : Nat) : itM m s (n + 1) = nextM m (itM m s n) := by
 have h := itM_rng h0 h1 n
 unfold itM at h ⊢
 rw [itP, permM_at h.1 h.2]
theorem ordM {m : MacV} {s : Int} (h0 : 0 ≤ s) (h1 : s < 4 * m.gears) : ∃ d, Ord (permM m) s d := ord_ex (permM_isP m) h0 (by rw [permM_len]; omega)
theorem least_ex {P : Nat → Prop} (h : ∃ n, P n) : ∃ n, P n ∧ ∀ k, k < n → ¬ P k := by
 obtain ⟨n, hn⟩ := h
 induction n using Nat.strongRecOn with
 | _ n ih =>
  by_cases hx : ∃ k, k < n ∧ P k
  ·obtain ⟨k, hk, hp⟩ := hx; exact ih k hk hp
  ·exact ⟨n, hn, fun k hk hp => hx ⟨k, hk, hp⟩⟩
/-- two carriers are in both slots of a shared place. -/
def hitM (m : MacV) (x y : Int) : Bool := (decide (0 ≤ placeM m x) && sharedM m (placeM m x)) && decide (placeM m x = placeM m y)
/-- what a first meeting is. -/
def MeetR (m : MacV) (a b : Int) : Option (Nat × Int) → Prop
 | some (n, p) => hitM m (itM m a n) (itM m b n) = true ∧ p = placeM m (itM m a n) ∧ ∀ k, k < n → hitM m (itM m a k) (itM m b k) = false
 | none => ∀ k, hitM m (itM m a k) (itM m b k) = false
theorem meet_ex (m : MacV) (a b : Int) : ∃ r, MeetR m a b r := by
 by_cases h : ∃ n, hitM m (itM m a n) (itM m b n) = true
 ·obtain ⟨n, hn, hk⟩ := least_ex h
  exact ⟨some (n, _), hn, rfl, fun k h2 => by simpa using hk k h2⟩
 ·exact ⟨none, fun k => by cases e : hitM m (itM m a k) (itM m b k) with | false => rfl | true => exact absurd ⟨k, e⟩ h⟩
noncomputable def meetM (m : MacV) (a b : Int) : Option (Nat × Int) := Classical.choose (meet_ex m a b)
theorem meetM_spec (m : MacV) (a b : Int) : MeetR m a b (meetM m a b) := Classical.choose_spec (meet_ex m a b)
theorem MeetR.eq {m : MacV} {a b : Int} {r s : Option (Nat × Int)} (h : MeetR m a b r) (k : MeetR m a b s) : r = s := by
 match r, s, h, k with
 | none, none, _, _ => rfl
 | none, some (n, p), h, k => exact absurd (h n) (by rw [k.1]; decide)
 | some (n, p), none, h, k => exact absurd (k n) (by rw [h.1]; decide)
 | some (n, p), some (n', p'), h, k =>
  obtain ⟨h1, h2, h3⟩ := h
  obtain ⟨k1, k2, k3⟩ := k
  have : n = n' := by
   rcases Nat.lt_trichotomy n n' with hl | hl | hl
   ·exact absurd (k3 n hl) (by rw [h1]; decide)
   ·exact hl
   ·exact absurd (h3 n' hl) (by rw [k1]; decide)
  subst this
  rw [h2, k2]
/-- where both are again, without a meeting before: they never meet. -/
theorem meet_none {m : MacV} {a b : Int} {L : Nat} (hL : 0 < L) (ha : itM m a L = a) (hb : itM m b L = b) (h : ∀ k, k < L → hitM m (itM m a k) (itM m b k) = false) : MeetR m a b none := by
 intro k
 have e : k = k % L + k / L * L := by have := Nat.mod_add_div k L; rw [Nat.mul_comm] at this; omega
 have key : ∀ s, itM m s L = s → itM m s k = itM m s (k % L) := by
  intro s hs
  unfold itM at hs ⊢
  conv => lhs; rw [e, itP_add, itP_mul hs]
 rw [key a ha, key b hb]
 exact h _ (Nat.mod_lt _ hL)
/-- the meeting, reckoned; none where the fuel is too little. -/
def meetF (m : MacV) (a b : Int) : Nat → Nat → Int → Int → Option (Option (Nat × Int))
 | 0, _, _, _ => none
 | f + 1, n, x, y => if hitM m x y then some (some (n, placeM m x)) else if nextM m x = a ∧ nextM m y = b then some none else meetF m a b f (n + 1) (nextM m x) (nextM m y)
theorem meetF_go {m : MacV} {a b : Int} (a0 : 0 ≤ a) (a1 : a < 4 * m.gears) (b0 : 0 ≤ b) (b1 : b < 4 * m.gears) : ∀ (f n : Nat) (r : Option (Nat × Int)), (∀ k, k < n → hitM m (itM m a k) (itM m b k) = false) →
  meetF m a b f n (itM m a n) (itM m b n) = some r → MeetR m a b r
 | 0, n, r, _, h => by simp [meetF] at h
 | f + 1, n, r, hno, h => by
   rw [meetF] at h
   split at h
   · rename_i hh; cases h; exact ⟨hh, rfl, hno⟩
   · rename_i hh
     have hno2 : ∀ k, k < n + 1 → hitM m (itM m a k) (itM m b k) = false := fun k hk => by
       by_cases e : k = n
       · subst e; simpa using hh
       · exact hno k (by omega)
     rw [← itM_succ a0 a1, ← itM_succ b0 b1] at h
     split at h
     · rename_i hb
       cases h
       exact meet_none (Nat.succ_pos n) hb.1 hb.2 hno2
     · exact meetF_go a0 a1 b0 b1 f (n + 1) r hno2 h
theorem meetF_ok {m : MacV} {a b : Int} (a0 : 0 ≤ a) (a1 : a < 4 * m.gears) (b0 : 0 ≤ b) (b1 : b < 4 * m.gears) {f : Nat} {r : Option (Nat × Int)} (h : meetF m a b f 0 a b = some r) : meetM m a b = r :=
 (meetM_spec m a b).eq (meetF_go a0 a1 b0 b1 f 0 r (fun k hk => by omega) h)

def befo (v w : Nat × Int) : Bool := decide (v.1 < w.1) || (decide (v.1 = w.1) && decide (v.2 < w.2))
def bestS (b x : Option (Nat × Int)) : Option (Nat × Int) := match x with
 | none => b
 | some v => match b with | none => some v | some w => if befo v w then some v else some w
/-- the pairs that are gone through. -/
def pairsTo (l : List Int) (i : Nat) : List (Int × Int) := (List.range i).flatMap fun j => (l.take j).map fun b => (atD 0 l j, b)
noncomputable def firstTo (m : MacV) (ps : List (Int × Int)) : Option (Nat × Int) := ps.foldl (fun b p => bestS b (meetM m p.1 p.2)) none
noncomputable def firstM (m : MacV) (l : List Int) : Option (Nat × Int) := firstTo m (pairsTo l l.length)
theorem pairsTo_succ (l : List Int) (i : Nat) : pairsTo l (i + 1) = pairsTo l i ++ (l.take i).map fun b => (atD 0 l i, b) := by simp [pairsTo, List.range_succ]
theorem firstTo_snoc (m : MacV) (ps : List (Int × Int)) (p : Int × Int) : firstTo m (ps ++ [p]) = bestS (firstTo m ps) (meetM m p.1 p.2) := by simp [firstTo]
end Go.Proofs.YtngpopalpofhgaaGreatDoor

namespace Go.Proofs.YtngpopalpofhgaaGreatDoor
set_option maxRecDepth 100000

/-- the first index of a number, or none. -/
def idxO (l : List Int) (x : Int) : Option Int := if l.findIdx (· == x) < l.length then some (l.findIdx (· == x) : Int) else none
theorem idxO_some {l : List Int} {x i : Int} (h : idxO l x = some i) : 0 ≤ i ∧ i < l.length ∧ l[i.toNat]? = some x := by
 unfold idxO at h
 split at h
 ·rename_i hlt
  cases h
  refine ⟨by omega, by omega, ?_⟩
  have := List.findIdx_getElem (xs := l) (p := (· == x)) (w := hlt)
  simp at this
  simp [hlt, this]
 ·cases h
theorem idxO_eq {l : List Int} {x : Int} {k : Nat} (hk : k < l.length) (h : l[k]? = some x) (hno : ∀ j : Nat, j < k → l[j]? ≠ some x) : idxO l x = some (k : Int) := by
 have e : l.findIdx (· == x) = k := by
  rw [List.findIdx_eq hk]
  refine ⟨?_, fun j hj => ?_⟩
  ·rw [List.getElem?_eq_getElem hk] at h
   cases h; simp
  ·have h1 := hno j hj
   rw [List.getElem?_eq_getElem (by omega)] at h1
   simpa using h1
 unfold idxO
 rw [e, if_pos hk]

/-- the gears from left to right, their slots in their order. -/
def gearsL (m : MacV) : List Int := (List.range m.gears.toNat).map fun (g : Nat) => (g : Int)
def slotsG (m : MacV) (g : Int) : List Int := if fwdM m g then [4 * g, 4 * g + 1, 4 * g + 3, 4 * g + 2] else [4 * g, 4 * g + 3, 4 * g + 1, 4 * g + 2]
def slotG (m : MacV) (g : Int) : Nat → Int
 | 0 => 4 * g
 | 1 => if fwdM m g then 4 * g + 1 else 4 * g + 3
 | 2 => if fwdM m g then 4 * g + 3 else 4 * g + 1
 | _ => 4 * g + 2
theorem slotsG_eq (m : MacV) (g : Int) : slotsG m g = [slotG m g 0, slotG m g 1, slotG m g 2, slotG m g 3] := by
 unfold slotsG slotG
 split <;> simp [*]
theorem slotG_div (m : MacV) (g : Int) (i : Nat) : slotG m g i / 4 = g := by
 unfold slotG
 split
 ·omega
 ·split <;> omega
 ·split <;> omega
 ·omega
/-- the numbers of carriers from left to right. -/
def orderG (m : MacV) (l : List Int) (g : Int) : List Int := (slotsG m g).filterMap (idxO l)
def orderM (m : MacV) (l : List Int) : List Int := (gearsL m).flatMap (orderG m l)

structure CrM where
 gear : Int
 over : Int
 under : Int
 going : Int
deriving DecidableEq
def crossA (m : MacV) (l : List Int) (g : Int) (x y : Nat) : Option CrM := match idxO l (slotG m g x), idxO l (slotG m g y) with
 | some a, some b => some (if fwdM m g then ⟨g, b, a, a⟩ else ⟨g, a, b, a⟩)
 | _, _ => none
def pairsX : List (Nat × Nat) := [(1, 2), (0, 2), (1, 3)]
def crossG (m : MacV) (l : List Int) (g : Int) : List CrM := pairsX.filterMap fun p => crossA m l g p.1 p.2
def crossM (m : MacV) (l : List Int) : List CrM := (gearsL m).flatMap (crossG m l)

def swpL (r : List Int) (i : Nat) : List Int := (r.set i (r.getD (i + 1) 0)).set (i + 1) (r.getD i 0)
def idxZ (l : List Int) (x : Int) : Int := (idxO l x).getD (-1)
def letterC (r : List Int) (c : CrM) : Int := if c.over = c.going then idxZ r c.going + 1 else -(idxZ r c.going) - 1
def weaveC (st : List Int × List Int) (c : CrM) : List Int × List Int := (swpL st.1 (idxZ st.1 c.going).toNat, st.2 ++ [letterC st.1 c])
def weaveS (m : MacV) (st : List Int × List Int) (l : List Int) : List Int × List Int := (crossM m l).foldl weaveC st
def stepL (m : MacV) (l : List Int) : List Int := l.map (nextM m)
theorem swpL_at (A C : List Int) (a b : Int) : swpL (A ++ a :: b :: C) A.length = A ++ b :: a :: C := by
 unfold swpL
 have h1 : (A ++ a :: b :: C).getD (A.length + 1) 0 = b := by simp [List.getD_eq_getElem?_getD]
 have h2 : (A ++ a :: b :: C).getD A.length 0 = a := by simp [List.getD_eq_getElem?_getD]
 rw [h1, h2, List.set_append_right _ _ (Nat.le_refl _), List.set_append_right _ _ (by omega)]
 simp
theorem idxO_mid {A C : List Int} {a : Int} (h : a ∉ A) : idxO (A ++ a :: C) a = some (A.length : Int) := by
 refine idxO_eq (by simp) (by simp) (fun j hj e => h ?_)
 rw [List.getElem?_append_left hj] at e
 exact List.mem_of_getElem? e
def bothX (f : Int → Int → CrM) (x y : Option Int) : Option CrM := match x, y with | some a, some b => some (f a b) | _, _ => none
/-- two neighbours that cross, if both are there. -/
theorem cross_swap {A C : List Int} {x y : Option Int} (hn : (A ++ [x, y].filterMap id ++ C).Nodup) {f : Int → Int → CrM} (hf : ∀ a b, (f a b).going = a) (out : List Int) :
  ∃ out', ((bothX f x y).toList.foldl weaveC (A ++ [x, y].filterMap id ++ C, out)) = (A ++ [y, x].filterMap id ++ C, out') ∧ (A ++ [y, x].filterMap id ++ C).Nodup := by
 match x, y with
 | none, none => exact ⟨out, rfl, hn⟩
 | none, some b => exact ⟨out, rfl, hn⟩
 | some a, none => exact ⟨out, rfl, hn⟩
 | some a, some b =>
  have ha : a ∉ A := by
   intro hm
   have h1 := List.nodup_append.1 (List.append_assoc _ _ _ ▸ hn)
   exact h1.2.2 a hm a (by simp) rfl
  have e : (A ++ [some a, some b].filterMap id ++ C) = A ++ a :: b :: C := by simp
  have e2 : (A ++ [some b, some a].filterMap id ++ C) = A ++ b :: a :: C := by simp
  rw [e] at hn ⊢
  rw [e2]
  refine ⟨out ++ [letterC (A ++ a :: b :: C) (f a b)], ?_, ?_⟩
  ·simp only [bothX, Option.toList, List.foldl_cons, List.foldl_nil, weaveC, hf]
   have : (idxZ (A ++ a :: b :: C) a).toNat = A.length := by unfold idxZ; rw [idxO_mid ha]; simp
   rw [this, swpL_at]
  ·refine hn.perm ?_
   exact List.Perm.append_left A (List.Perm.swap b a C)
end Go.Proofs.YtngpopalpofhgaaGreatDoor

namespace Go.Proofs.YtngpopalpofhgaaGreatDoor
set_option maxRecDepth 100000

abbrev catO (l : List (Option Int)) : List Int := l.filterMap id
def opG (m : MacV) (l : List Int) (g : Int) (i : Nat) : Option Int := idxO l (slotG m g i)
theorem orderG_eq (m : MacV) (l : List Int) (g : Int) : orderG m l g = catO [opG m l g 0, opG m l g 1, opG m l g 2, opG m l g 3] := by
 unfold orderG catO opG
 rw [slotsG_eq]
 simp [List.filterMap_cons]
def afterG (m : MacV) (l : List Int) (g : Int) : List Int := catO [opG m l g 2, opG m l g 0, opG m l g 3, opG m l g 1]
theorem crossG_eq (m : MacV) (l : List Int) (g : Int) : crossG m l g = (crossA m l g 1 2).toList ++ ((crossA m l g 0 2).toList ++ (crossA m l g 1 3).toList) := by
 unfold crossG pairsX
 simp only [List.filterMap_cons, List.filterMap_nil]
 generalize crossA m l g 1 2 = a
 generalize crossA m l g 0 2 = b
 generalize crossA m l g 1 3 = c
 cases a <;> cases b <;> cases c <;> rfl
def mkX (m : MacV) (g : Int) (a b : Int) : CrM := if fwdM m g then ⟨g, b, a, a⟩ else ⟨g, a, b, a⟩
theorem mkX_going (m : MacV) (g a b : Int) : (mkX m g a b).going = a := by unfold mkX; split <;> rfl
theorem crossA_eq (m : MacV) (l : List Int) (g : Int) (x y : Nat) : crossA m l g x y = bothX (mkX m g) (opG m l g x) (opG m l g y) := rfl
theorem catO_app (x y : List (Option Int)) : catO (x ++ y) = catO x ++ catO y := by simp [catO]
theorem crossG_row (m : MacV) (l : List Int) (g : Int) {A C : List Int} (hn : (A ++ orderG m l g ++ C).Nodup) (out : List Int) :
  ∃ out', (crossG m l g).foldl weaveC (A ++ orderG m l g ++ C, out) = (A ++ afterG m l g ++ C, out') ∧ (A ++ afterG m l g ++ C).Nodup := by
 rw [crossG_eq, orderG_eq] at *
 unfold afterG
 rw [crossA_eq, crossA_eq, crossA_eq]
 generalize opG m l g 0 = o0 at *
 generalize opG m l g 1 = o1 at *
 generalize opG m l g 2 = o2 at *
 generalize opG m l g 3 = o3 at *
 have e1 : A ++ catO [o0, o1, o2, o3] ++ C = (A ++ catO [o0]) ++ [o1, o2].filterMap id ++ (catO [o3] ++ C) := by
  rw [show [o0, o1, o2, o3] = [o0] ++ ([o1, o2] ++ [o3]) from rfl, catO_app, catO_app]; simp only [catO, List.append_assoc]
 have e2 : (A ++ catO [o0]) ++ [o2, o1].filterMap id ++ (catO [o3] ++ C) = A ++ [o0, o2].filterMap id ++ (catO [o1, o3] ++ C) := by
  rw [show [o0, o2] = [o0] ++ [o2] from rfl, show [o2, o1] = [o2] ++ [o1] from rfl, show [o1, o3] = [o1] ++ [o3] from rfl, catO_app, ]
  simp only [catO, List.filterMap_append, List.append_assoc]
 have e3 : A ++ [o2, o0].filterMap id ++ (catO [o1, o3] ++ C) = (A ++ catO [o2, o0]) ++ [o1, o3].filterMap id ++ C := by
  simp only [catO, List.append_assoc]
 have e4 : (A ++ catO [o2, o0]) ++ [o3, o1].filterMap id ++ C = A ++ catO [o2, o0, o3, o1] ++ C := by
  rw [show [o2, o0, o3, o1] = [o2, o0] ++ [o3, o1] from rfl, catO_app]; simp only [catO, List.append_assoc]
 rw [e1] at hn ⊢
 rw [List.foldl_append, List.foldl_append]
 obtain ⟨u1, h1, n1⟩ := cross_swap hn (mkX_going m g) out
 rw [h1]
 rw [e2] at n1 ⊢
 obtain ⟨u2, h2, n2⟩ := cross_swap n1 (mkX_going m g) u1
 rw [h2]
 rw [e3] at n2 ⊢
 obtain ⟨u3, h3, n3⟩ := cross_swap n2 (mkX_going m g) u2
 rw [h3]
 rw [e4] at n3 ⊢
 exact ⟨u3, rfl, n3⟩
theorem crossL_row (m : MacV) (l : List Int) : ∀ (gs : List Int) (A out : List Int), (A ++ gs.flatMap (orderG m l)).Nodup →
  ∃ out', (gs.flatMap (crossG m l)).foldl weaveC (A ++ gs.flatMap (orderG m l), out) = (A ++ gs.flatMap (afterG m l), out') ∧ (A ++ gs.flatMap (afterG m l)).Nodup
 | [], A, out, hn => ⟨out, rfl, hn⟩
 | g :: gs, A, out, hn => by
   simp only [List.flatMap_cons] at hn ⊢
   rw [← List.append_assoc] at hn ⊢
   obtain ⟨u1, h1, n1⟩ := crossG_row m l g hn out
   rw [List.foldl_append, h1]
   obtain ⟨u2, h2, n2⟩ := crossL_row m l gs (A ++ afterG m l g) u1 n1
   rw [h2]
   rw [← List.append_assoc]
   exact ⟨u2, rfl, n2⟩

theorem gearsL_mem {m : MacV} {g : Int} : g ∈ gearsL m ↔ 0 ≤ g ∧ g < m.gears := by
 unfold gearsL
 simp only [List.mem_map, List.mem_range]
 constructor
 ·rintro ⟨k, hk, rfl⟩; omega
 ·intro h; exact ⟨g.toNat, by omega, by omega⟩
theorem gearsL_nodup (m : MacV) : (gearsL m).Nodup := by
 unfold gearsL List.Nodup
 rw [List.pairwise_map]
 have := List.nodup_range (n := m.gears.toNat)
 exact this.imp (fun h e => h (by omega))
theorem slotsG_nodup (m : MacV) (g : Int) : (slotsG m g).Nodup := by
 unfold slotsG
 split <;> simp <;> omega
theorem slotsG_mem {m : MacV} {g s : Int} : s ∈ slotsG m g ↔ s / 4 = g := by
 unfold slotsG
 split <;> simp <;> omega
theorem seqM_nodup (m : MacV) : ((gearsL m).flatMap (slotsG m)).Nodup := by
 unfold List.Nodup
 rw [List.pairwise_flatMap]
 refine ⟨fun g _ => slotsG_nodup m g, (gearsL_nodup m).imp ?_⟩
 intro a b hab x hx y hy e
 rw [slotsG_mem] at hx hy
 exact hab (by rw [← hx, ← hy, e])
theorem idxO_inj {l : List Int} {x y i : Int} (h : idxO l x = some i) (k : idxO l y = some i) : x = y := by
 have a := (idxO_some h).2.2
 have b := (idxO_some k).2.2
 rw [a] at b
 exact Option.some.inj b
theorem orderM_seq (m : MacV) (l : List Int) : orderM m l = ((gearsL m).flatMap (slotsG m)).filterMap (idxO l) := by
 unfold orderM orderG
 rw [List.filterMap_flatMap]
theorem orderM_nodup (m : MacV) (l : List Int) : (orderM m l).Nodup := by
 rw [orderM_seq]
 unfold List.Nodup
 rw [List.pairwise_filterMap]
 refine (seqM_nodup m).imp ?_
 intro a b hab x hx y hy e
 subst e
 exact hab (idxO_inj hx hy)
def afterM (m : MacV) (l : List Int) : List Int := (gearsL m).flatMap (afterG m l)
theorem weaveS_row (m : MacV) (l out : List Int) : ∃ out', weaveS m (orderM m l, out) l = (afterM m l, out') ∧ (afterM m l).Nodup := by
 have := crossL_row m l (gearsL m) [] out (by simpa [orderM] using orderM_nodup m l)
 simpa [weaveS, crossM, orderM, afterM] using this

theorem idxO_map {l : List Int} {f : Int → Int} {s t : Int} (h : ∀ x ∈ l, f x = s ↔ x = t) : idxO (l.map f) s = idxO l t := by
 have e : (l.map f).findIdx (· == s) = l.findIdx (· == t) := by
  rw [List.findIdx_map]
  induction l with
  | nil => rfl
  | cons x r ih =>
   rw [List.findIdx_cons, List.findIdx_cons, ih (fun y hy => h y (List.mem_cons_of_mem _ hy))]
   have := h x List.mem_cons_self
   have e2 : ((fun x => x == s) ∘ f) x = (x == t) := by
    simp only [Function.comp]
    rw [Bool.eq_iff_iff]; simpa using this
   rw [e2]
 unfold idxO
 rw [e, List.length_map]
theorem rot_slot {m : MacV} {g : Int} : rotM m (slotG m g 2) = slotG m g 0 ∧ rotM m (slotG m g 0) = slotG m g 1 ∧ rotM m (slotG m g 3) = slotG m g 2 ∧ rotM m (slotG m g 1) = slotG m g 3 := by
 have hd := fun i => slotG_div m g i
 unfold rotM
 rw [hd, hd, hd, hd]
 cases hf : fwdM m g <;> simp [slotG, hf] <;> omega
theorem slotG_rng {m : MacV} {g : Int} (h0 : 0 ≤ g) (h1 : g < m.gears) (i : Nat) : 0 ≤ slotG m g i ∧ slotG m g i < 4 * m.gears := by
 unfold slotG
 split
 ·omega
 ·split <;> omega
 ·split <;> omega
 ·omega
theorem idxO_rot {m : MacV} {l : List Int} (hl : ∀ x ∈ l, 0 ≤ x ∧ x < 4 * m.gears) {s t : Int} (h0 : 0 ≤ t) (h1 : t < 4 * m.gears) (h : rotM m t = s) : idxO (l.map (rotM m)) s = idxO l t :=
 idxO_map fun x hx => ⟨fun e => rot_inj (hl x hx).1 (hl x hx).2 h0 h1 (e.trans h.symm), fun e => e ▸ h⟩
theorem over_inj {m : MacV} {s t : Int} (h0 : 0 ≤ s) (h1 : s < 4 * m.gears) (k0 : 0 ≤ t) (k1 : t < 4 * m.gears) (e : overM m s = overM m t) : s = t := by
 have := congrArg (overM m) e
 rwa [over_over h0 h1, over_over k0 k1] at this
theorem idxO_over {m : MacV} {l : List Int} (hl : ∀ x ∈ l, 0 ≤ x ∧ x < 4 * m.gears) {s : Int} (h0 : 0 ≤ s) (h1 : s < 4 * m.gears) : idxO (l.map (overM m)) s = idxO l (overM m s) :=
 idxO_map fun x hx => ⟨fun e => by rw [← e, over_over (hl x hx).1 (hl x hx).2], fun e => by rw [e, over_over h0 h1]⟩
theorem after_rot {m : MacV} {l : List Int} (hl : ∀ x ∈ l, 0 ≤ x ∧ x < 4 * m.gears) : afterM m l = orderM m (l.map (rotM m)) := by
 unfold afterM orderM
 have key : ∀ g ∈ gearsL m, afterG m l g = orderG m (l.map (rotM m)) g := by
  intro g hg
  obtain ⟨h0, h1⟩ := gearsL_mem.1 hg
  obtain ⟨r2, r0, r3, r1⟩ := rot_slot (m := m) (g := g)
  have k := fun i => slotG_rng (m := m) h0 h1 i
  rw [orderG_eq]
  unfold afterG opG
  rw [idxO_rot hl (k 2).1 (k 2).2 r2, idxO_rot hl (k 0).1 (k 0).2 r0, idxO_rot hl (k 3).1 (k 3).2 r3, idxO_rot hl (k 1).1 (k 1).2 r1]
 have : ∀ gs : List Int, (∀ g ∈ gs, g ∈ gearsL m) → gs.flatMap (afterG m l) = gs.flatMap (orderG m (l.map (rotM m))) := by
  intro gs
  induction gs with
  | nil => intro _; rfl
  | cons g gs ih => intro h; rw [List.flatMap_cons, List.flatMap_cons, key g (h g List.mem_cons_self), ih (fun x hx => h x (List.mem_cons_of_mem _ hx))]
 exact this _ (fun _ h => h)

/-- the same, taken apart at the shared places. -/
theorem regroup (F : Nat → List Int) (a bc d : Nat → List Int) (hF : ∀ g, F g = a g ++ bc g ++ d g) : ∀ k : Nat, (List.range (k + 1)).flatMap F = a 0 ++ (List.range k).flatMap (fun g => bc g ++ (d g ++ a (g + 1))) ++ (bc k ++ d k)
 | 0 => by simp [List.range_succ, hF]
 | k + 1 => by
   rw [List.range_succ, List.flatMap_append, regroup F a bc d hF k, List.range_succ, List.flatMap_append]
   simp [hF, List.append_assoc]
theorem placeM_slot {m : MacV} (g : Int) : placeM m (slotG m g 0) = g ∧ placeM m (slotG m g 1) = -1 ∧ placeM m (slotG m g 2) = -1 ∧ (m.ring = false → placeM m (slotG m g 3) = g + 1) := by
 cases hf : fwdM m g <;> unfold placeM slotG <;> simp only [hf, if_true, if_false, Bool.false_eq_true] <;> refine ⟨?_, ?_, ?_, fun hr => ?_⟩ <;> (repeat' split) <;> first | omega | simp_all <;> omega
/-- no two of these carriers are in both slots of a shared place. -/
def NoHit (m : MacV) (l : List Int) : Prop := ∀ x ∈ l, ∀ y ∈ l, x ≠ y → hitM m x y = false
theorem order_over {m : MacV} {l : List Int} (hr : m.ring = false) (hl : ∀ x ∈ l, 0 ≤ x ∧ x < 4 * m.gears) (hno : NoHit m l) : orderM m (l.map (overM m)) = orderM m l := by
 by_cases hg : m.gears ≤ 0
 ·have : m.gears.toNat = 0 := by omega
  simp [orderM, gearsL, this]
 obtain ⟨k, hk⟩ : ∃ k : Nat, m.gears.toNat = k + 1 := ⟨m.gears.toNat - 1, by omega⟩
 have hkg : m.gears = (k : Int) + 1 := by omega
 have hu : ∀ L : List Int, orderM m L = (List.range (k + 1)).flatMap (fun g : Nat => orderG m L (g : Int)) := by
  intro L
  unfold orderM gearsL
  rw [hk, List.flatMap_map]
 have hF : ∀ (L : List Int) (g : Nat), orderG m L (g : Int) = catO [opG m L g 0] ++ catO [opG m L g 1, opG m L g 2] ++ catO [opG m L g 3] := by
  intro L g
  rw [orderG_eq, ← catO_app, ← catO_app]
  rfl
 rw [hu, hu, regroup _ _ _ _ (hF (l.map (overM m))) k, regroup _ _ _ _ (hF l) k]
 have stay : ∀ (g i : Nat), (g : Int) < m.gears → goesM m (slotG m g i) = false → opG m (l.map (overM m)) g i = opG m l g i := by
  intro g i hg hno
  obtain ⟨s0, s1⟩ := slotG_rng (m := m) (g := (g : Int)) (by omega) hg i
  unfold opG
  rw [idxO_over hl s0 s1]
  unfold overM
  rw [hno]
  rfl
 have gm1 : ∀ (g : Nat), goesM m (slotG m g 1) = false := fun g => by unfold goesM; rw [(placeM_slot g).2.1]; simp
 have gm2 : ∀ (g : Nat), goesM m (slotG m g 2) = false := fun g => by unfold goesM; rw [(placeM_slot g).2.2.1]; simp
 have gm0 : goesM m (slotG m ((0 : Nat) : Int) 0) = false := by unfold goesM; rw [(placeM_slot _).1]; simp [sharedM, hr]
 have gmk : goesM m (slotG m (k : Int) 3) = false := by
  unfold goesM
  rw [(placeM_slot (m := m) (k : Int)).2.2.2 hr]
  have : sharedM m ((k : Int) + 1) = false := by unfold sharedM; simp [hr, hkg]
  rw [this]; simp
 have z0 : catO [opG m (l.map (overM m)) ((0 : Nat) : Int) 0] = catO [opG m l ((0 : Nat) : Int) 0] := by rw [stay 0 0 (by omega) gm0]
 have zk : catO [opG m (l.map (overM m)) k 1, opG m (l.map (overM m)) k 2] ++ catO [opG m (l.map (overM m)) k 3] = catO [opG m l k 1, opG m l k 2] ++ catO [opG m l k 3] := by
  rw [stay k 1 (by omega) (gm1 k), stay k 2 (by omega) (gm2 k), stay k 3 (by omega) gmk]
 rw [z0, zk]
 congr 2
 have mid : ∀ g : Nat, g < k → (catO [opG m (l.map (overM m)) g 1, opG m (l.map (overM m)) g 2] ++ (catO [opG m (l.map (overM m)) g 3] ++ catO [opG m (l.map (overM m)) ((g + 1 : Nat) : Int) 0])) = (catO [opG m l g 1, opG m l g 2] ++ (catO [opG m l g 3] ++ catO [opG m l ((g + 1 : Nat) : Int) 0])) := by
  intro g hg
  rw [stay g 1 (by omega) (gm1 g), stay g 2 (by omega) (gm2 g)]
  congr 1
  have p3 := (placeM_slot (m := m) (g : Int)).2.2.2 hr
  have p0 := (placeM_slot (m := m) ((g + 1 : Nat) : Int)).1
  have e3 : slotG m (g : Int) 3 = 4 * (g : Int) + 2 := rfl
  have e0 : slotG m ((g + 1 : Nat) : Int) 0 = 4 * ((g + 1 : Nat) : Int) := rfl
  have hsh : sharedM m ((g : Int) + 1) = true := shared_iff.2 ⟨by omega, by omega, .inr (by omega)⟩
  have r3 := slotG_rng (m := m) (g := (g : Int)) (by omega) (by omega) 3
  have r0 := slotG_rng (m := m) (g := ((g + 1 : Nat) : Int)) (by omega) (by omega) 0
  cases hsw : m.sw.contains ((g : Int) + 1)
  ·have hb : befM m ((g : Int) + 1) = g := by unfold befM; rw [if_neg (by omega)]; omega
   have o3 : overM m (slotG m (g : Int) 3) = slotG m ((g + 1 : Nat) : Int) 0 := by
    have hgo : goesM m (slotG m (g : Int) 3) = true := by unfold goesM; rw [p3, hsh, hsw]; simp; omega
    unfold overM
    rw [if_pos hgo, p3, hb, e3, e0]
    omega
   have o0 : overM m (slotG m ((g + 1 : Nat) : Int) 0) = slotG m (g : Int) 3 := by rw [← o3, over_over r3.1 r3.2]
   have a3 : opG m (l.map (overM m)) (g : Int) 3 = opG m l ((g + 1 : Nat) : Int) 0 := by unfold opG; rw [idxO_over hl r3.1 r3.2, o3]
   have a0 : opG m (l.map (overM m)) ((g + 1 : Nat) : Int) 0 = opG m l (g : Int) 3 := by unfold opG; rw [idxO_over hl r0.1 r0.2, o0]
   rw [a3, a0]
   -- at most one of them is there
   match h1 : opG m l (g : Int) 3, h2 : opG m l ((g + 1 : Nat) : Int) 0 with
   | none, none => rfl
   | none, some b => rfl
   | some a, none => rfl
   | some a, some b =>
    exfalso
    have m1 := List.mem_of_getElem? (idxO_some h1).2.2
    have m2 := List.mem_of_getElem? (idxO_some h2).2.2
    have hh := hno _ m1 _ m2 (by rw [e3, e0]; omega)
    unfold hitM at hh
    rw [p3, p0, hsh] at hh
    simp at hh
    omega
  ·have g3 : goesM m (slotG m (g : Int) 3) = false := by unfold goesM; rw [p3, hsw]; simp
   have g0 : goesM m (slotG m ((g + 1 : Nat) : Int) 0) = false := by
    unfold goesM; rw [p0, show ((g + 1 : Nat) : Int) = (g : Int) + 1 by omega, hsw]; simp
   rw [stay g 3 (by omega) g3, stay (g + 1) 0 (by omega) g0]
 have : ∀ j, j ≤ k → (List.range j).flatMap (fun g : Nat => catO [opG m (l.map (overM m)) (g : Int) 1, opG m (l.map (overM m)) (g : Int) 2] ++ (catO [opG m (l.map (overM m)) (g : Int) 3] ++ catO [opG m (l.map (overM m)) ((g + 1 : Nat) : Int) 0])) = (List.range j).flatMap (fun g : Nat => catO [opG m l (g : Int) 1, opG m l (g : Int) 2] ++ (catO [opG m l (g : Int) 3] ++ catO [opG m l ((g + 1 : Nat) : Int) 0])) := by
  intro j
  induction j with
  | zero => intro _; rfl
  | succ j ih => intro h; rw [List.range_succ, List.flatMap_append, List.flatMap_append, ih (by omega)]; simp only [List.flatMap_cons, List.flatMap_nil, List.append_nil]; rw [mid j (by omega)]
 exact this k (Nat.le_refl _)
theorem order_step {m : MacV} {l : List Int} (hr : m.ring = false) (hl : ∀ x ∈ l, 0 ≤ x ∧ x < 4 * m.gears) (hno : NoHit m (stepL m l)) : afterM m l = orderM m (stepL m l) := by
 have hl2 : ∀ x ∈ l.map (rotM m), 0 ≤ x ∧ x < 4 * m.gears := by
  intro x hx
  obtain ⟨y, hy, rfl⟩ := List.mem_map.1 hx
  have := rot_rng (hl y hy).1 (hl y hy).2
  exact ⟨this.1, this.2.1⟩
 have e : stepL m l = (l.map (rotM m)).map (overM m) := by unfold stepL; rw [List.map_map]; rfl
 rw [after_rot hl, e, order_over hr hl2]
 intro x hx y hy hxy
 have hx2 := hl2 x hx
 have hy2 := hl2 y hy
 have h1 := hno (overM m x) (by rw [e]; exact List.mem_map_of_mem hx) (overM m y) (by rw [e]; exact List.mem_map_of_mem hy) (fun e => hxy (over_inj hx2.1 hx2.2 hy2.1 hy2.2 e))
 have pl : ∀ s, 0 ≤ s → s < 4 * m.gears → placeM m (overM m s) = placeM m s := by
  intro s h0 h1
  rcases over_cases h0 h1 with ⟨_, e⟩ | ⟨_, _, _, hp, _⟩
  ·rw [e]
  ·exact hp
 unfold hitM at h1 ⊢
 rw [pl x hx2.1 hx2.2, pl y hy2.1 hy2.2] at h1
 exact h1
end Go.Proofs.YtngpopalpofhgaaGreatDoor

namespace Go.Proofs.YtngpopalpofhgaaGreatDoor
set_option maxRecDepth 100000

def rowC (r : List Int) (c : CrM) : List Int := swpL r (idxZ r c.going).toNat
theorem fold_fst : ∀ (cs : List CrM) (r out : List Int), (cs.foldl weaveC (r, out)).1 = cs.foldl rowC r
 | [], r, out => rfl
 | c :: cs, r, out => by rw [List.foldl_cons, List.foldl_cons, weaveC]; exact fold_fst cs _ _
theorem fold_len : ∀ (cs : List CrM) (r out : List Int), (cs.foldl weaveC (r, out)).2.length = out.length + cs.length
 | [], r, out => rfl
 | c :: cs, r, out => by
   rw [List.foldl_cons, weaveC, fold_len cs, List.length_append, List.length_cons, List.length_nil, List.length_cons]; dsimp only; omega
def goodC : List Int → List CrM → Prop
 | _, [] => True
 | r, c :: cs => (∃ i : Nat, idxO r c.going = some (i : Int) ∧ i + 1 < r.length) ∧ goodC (rowC r c) cs
theorem goodC_app : ∀ (xs ys : List CrM) (r : List Int), goodC r (xs ++ ys) ↔ goodC r xs ∧ goodC (xs.foldl rowC r) ys
 | [], ys, r => by simp [goodC]
 | c :: xs, ys, r => by
   rw [List.cons_append, goodC, goodC, List.foldl_cons, goodC_app xs ys (rowC r c), and_assoc]
theorem cross_good {A C : List Int} {x y : Option Int} (hn : (A ++ [x, y].filterMap id ++ C).Nodup) {f : Int → Int → CrM} (hf : ∀ a b, (f a b).going = a) :
  goodC (A ++ [x, y].filterMap id ++ C) (bothX f x y).toList := by
 match x, y with
 | none, none => trivial
 | none, some b => trivial
 | some a, none => trivial
 | some a, some b =>
  have ha : a ∉ A := by
   intro hm
   have h1 := List.nodup_append.1 (List.append_assoc _ _ _ ▸ hn)
   exact h1.2.2 a hm a (by simp) rfl
  have e : (A ++ [some a, some b].filterMap id ++ C) = A ++ a :: b :: C := by simp
  rw [e]
  refine ⟨⟨A.length, ?_, ?_⟩, trivial⟩
  ·rw [hf]; exact idxO_mid ha
  ·simp
theorem crossG_good (m : MacV) (l : List Int) (g : Int) {A C : List Int} (hn : (A ++ orderG m l g ++ C).Nodup) : goodC (A ++ orderG m l g ++ C) (crossG m l g) := by
 rw [crossG_eq, orderG_eq] at *
 rw [crossA_eq, crossA_eq, crossA_eq]
 generalize opG m l g 0 = o0 at *
 generalize opG m l g 1 = o1 at *
 generalize opG m l g 2 = o2 at *
 generalize opG m l g 3 = o3 at *
 have e1 : A ++ catO [o0, o1, o2, o3] ++ C = (A ++ catO [o0]) ++ [o1, o2].filterMap id ++ (catO [o3] ++ C) := by
  rw [show [o0, o1, o2, o3] = [o0] ++ ([o1, o2] ++ [o3]) from rfl, catO_app, catO_app]; simp only [catO, List.append_assoc]
 have e2 : (A ++ catO [o0]) ++ [o2, o1].filterMap id ++ (catO [o3] ++ C) = A ++ [o0, o2].filterMap id ++ (catO [o1, o3] ++ C) := by
  rw [show [o0, o2] = [o0] ++ [o2] from rfl, show [o2, o1] = [o2] ++ [o1] from rfl, show [o1, o3] = [o1] ++ [o3] from rfl, catO_app, ]
  simp only [catO, List.filterMap_append, List.append_assoc]
 have e3 : A ++ [o2, o0].filterMap id ++ (catO [o1, o3] ++ C) = (A ++ catO [o2, o0]) ++ [o1, o3].filterMap id ++ C := by
  simp only [catO, List.append_assoc]
 rw [e1] at hn ⊢
 have g1 := cross_good hn (mkX_going m g)
 obtain ⟨u1, h1, n1⟩ := cross_swap hn (mkX_going m g) []
 have r1 := congrArg Prod.fst h1
 rw [fold_fst] at r1
 simp only [e2] at r1 n1
 have g2 := cross_good n1 (mkX_going m g)
 obtain ⟨u2, h2, n2⟩ := cross_swap n1 (mkX_going m g) []
 have r2 := congrArg Prod.fst h2
 rw [fold_fst] at r2
 simp only [e3] at r2 n2
 have g3 := cross_good n2 (mkX_going m g)
 rw [goodC_app, goodC_app, r1, r2]
 exact ⟨g1, g2, g3⟩
theorem crossL_good (m : MacV) (l : List Int) : ∀ (gs : List Int) (A : List Int), (A ++ gs.flatMap (orderG m l)).Nodup → goodC (A ++ gs.flatMap (orderG m l)) (gs.flatMap (crossG m l))
 | [], A, hn => trivial
 | g :: gs, A, hn => by
   simp only [List.flatMap_cons] at hn ⊢
   rw [← List.append_assoc] at hn ⊢
   rw [goodC_app]
   refine ⟨crossG_good m l g hn, ?_⟩
   obtain ⟨u1, h1, n1⟩ := crossG_row m l g hn []
   have r1 := congrArg Prod.fst h1
   rw [fold_fst] at r1
   rw [r1]
   exact crossL_good m l gs (A ++ afterG m l g) n1
theorem crossM_good (m : MacV) (l : List Int) : goodC (orderM m l) (crossM m l) := by
 have := crossL_good m l (gearsL m) [] (by simpa [orderM] using orderM_nodup m l)
 simpa [crossM, orderM] using this
theorem crossM_len (m : MacV) (l : List Int) : (crossM m l).length ≤ 3 * m.gears.toNat := by
 have key : ∀ gs : List Int, (gs.flatMap (crossG m l)).length ≤ 3 * gs.length := by
  intro gs
  induction gs with
  | nil => simp
  | cons g gs ih =>
   rw [List.flatMap_cons, List.length_append, List.length_cons]
   have : (crossG m l g).length ≤ 3 := by unfold crossG; exact Nat.le_trans (List.length_filterMap_le _ _) (by decide)
   omega
 have := key (gearsL m)
 simpa [crossM, gearsL] using this
/-- the crossing at a place of the walk. -/
theorem goodC_at {cs : List CrM} {r : List Int} (h : goodC r cs) {k : Nat} (hk : k < cs.length) : ∃ i : Nat, idxO ((cs.take k).foldl rowC r) (cs[k].going) = some (i : Int) ∧ i + 1 < ((cs.take k).foldl rowC r).length := by
 have e : cs = cs.take k ++ cs[k] :: cs.drop (k + 1) := by
  conv => lhs; rw [← List.take_append_drop k cs]
  rw [List.drop_eq_getElem_cons hk]
 rw [e, goodC_app] at h
 exact h.2.1
theorem weaveS_len (m : MacV) (st : List Int × List Int) (l : List Int) : (weaveS m st l).2.length = st.2.length + (crossM m l).length := fold_len _ _ _
end Go.Proofs.YtngpopalpofhgaaGreatDoor

namespace Go.Proofs.YtngpopalpofhgaaGreatDoor
open Go.RowKit
set_option maxHeartbeats 2000000
set_option maxRecDepth 100000

abbrev mC (m : MacV) (ad : Option Addr) (cap : Nat) : Array Value := #[.bool m.ring, .int .i64 m.gears, .int .i64 m.turn, .slice ad m.sw.length cap]
abbrev mV (m : MacV) (ad : Option Addr) (cap : Nat) : Value := .agg #[.bool m.ring, .int .i64 m.gears, .int .i64 m.turn, .slice ad m.sw.length cap]
theorem A_mach : Aggr Tryz.prog 76 := ⟨_, Tryz.underlying76, rfl⟩
theorem F_boolM : Flat Tryz.prog 4 := ⟨_, Tryz.underlying4, rfl⟩
theorem F_sliceM : Flat Tryz.prog 22 := ⟨_, Tryz.underlying22, rfl⟩
theorem A_two : Aggr Tryz.prog 67 := ⟨_, Tryz.underlying67, rfl⟩

theorem mwhen_any (b : Bool) (e : Int) (w : World) :
  Calls Tryz.prog 154 #[.bool b, .int .i64 e] w fun r w' => r = .returned (.int .i64 (if b then e else 0)) ∧ w = w' := by
 cases b
 ·go_enter Tryz.func154, Tryz.ntmps154
  go_wp2
  go_ret
  exact ⟨rfl, rfl⟩
 ·go_enter Tryz.func154, Tryz.ntmps154
  go_wp2
  go_ret
  exact ⟨rfl, rfl⟩
theorem mfirst_any (a : Option Addr) (cap : Nat) (l : List Int) (w : World) (h : Ints w a cap l) :
  Calls Tryz.prog 152 #[.slice a l.length cap] w fun r w' => r = .returned (.int .i64 (firstE l)) ∧ w = w' := by
 have hcap := h.le
 have hm := h.max
 go_enter Tryz.func152, Tryz.ntmps152
 go_wp2
 go_loop [7] (fun i => ∃ k : Nat, k ≤ l.length ∧ i = .int .i64 k ∧ firstE (l.drop k) = firstE l) (fun i => l.length - (intOf i).toNat)
 case atStart => exact ⟨0, by omega, rfl, by simp⟩
 case round =>
  obtain ⟨k, hk, rfl, hf⟩ := hrel
  by_cases hlt : k < l.length
  ·have hs := firstE_drop l k hlt
   have HF := hid hf; clear hf
   have HS := hid hs; clear hs
   go_wp2_with (with_reducible refine wpList_idx _ 0 E_errs F_err cInt1 wU wU (h) oD oD (fun _ => wU) (fun _ => ?_))
   ·go_ret
    have h1 : (atD 0 l k != 0) = true := by assumption
    refine ⟨?_, rfl⟩
    have := HS.out; rw [HF.out, h1, if_pos rfl] at this; rw [this]; rfl
   ·go_round
    case rel =>
     have h1 : (atD 0 l k != 0) = false := by assumption
     refine ⟨k + 1, by omega, by go_num, ?_⟩
     have := HS.out; rw [HF.out, h1] at this; exact this.symm
    case measure => simp [intOf]; omega
  ·have : k = l.length := by omega
   subst this
   rw [firstE_end] at hf
   have HF := hid hf; clear hf
   go_wp2
   go_ret
   exact ⟨by rw [← HF.out]; rfl, rfl⟩
theorem btoi_any (b : Bool) (w : World) :
  Calls Tryz.prog 237 #[.bool b] w fun r w' => r = .returned (.int .i64 (if b then 1 else 0)) ∧ w = w' := by
 cases b
 ·go_enter Tryz.func237, Tryz.ntmps237
  go_wp2
  go_ret
  exact ⟨rfl, rfl⟩
 ·go_enter Tryz.func237, Tryz.ntmps237
  go_wp2
  go_ret
  exact ⟨rfl, rfl⟩
theorem forwards_any (m : MacV) (ad : Option Addr) (cap : Nat) (g : Int) (w : World) (h0 : 0 ≤ g) (h1 : g ≤ 1048576) :
  Calls Tryz.prog 157 #[mV m ad cap, .int .i64 g] w fun r w' => r = .returned (.bool (fwdM m g)) ∧ Below w.heap.size w w' := by
 obtain ⟨q, hq⟩ : ∃ q, q = g % 2 := ⟨_, rfl⟩
 have htm : g.tmod 2 = q := by rw [hq, Int.tmod_eq_emod_of_nonneg h0]
 have hf : fwdM m g = ((m.turn == 1) == (q == 0)) := by unfold fwdM; rw [hq]
 have hq2 : 0 ≤ q ∧ q < 2 := by omega
 have HF := hid hf
 clear hf hq
 go_enter Tryz.func157, Tryz.ntmps157
 go_wp2_with fail
 go_ret
 exact ⟨by rw [HF.out]; rfl, bal (Below.refl _ _) _⟩
theorem shared_any (m : MacV) (ad : Option Addr) (cap : Nat) (p : Int) (w : World) :
  Calls Tryz.prog 210 #[mV m ad cap, .int .i64 p] w fun r w' => r = .returned (.bool (sharedM m p)) ∧ Below w.heap.size w w' := by
 by_cases h0 : 0 ≤ p
 ·by_cases h1 : p < m.gears
  ·cases hr : m.ring
   ·have hs : sharedM m p = decide (0 < p) := by unfold sharedM; simp [h0, h1, hr]
    have HS := hid hs; clear hs
    go_enter Tryz.func210, Tryz.ntmps210
    go_wp2_with fail
    go_ret
    exact ⟨by rw [HS.out]; rfl, bal (Below.refl _ _) _⟩
   ·have hs : sharedM m p = true := by unfold sharedM; simp [h0, h1, hr]
    have HS := hid hs; clear hs
    go_enter Tryz.func210, Tryz.ntmps210
    go_wp2_with fail
    go_ret
    exact ⟨by rw [HS.out]; rfl, bal (Below.refl _ _) _⟩
  ·have hs : sharedM m p = false := by unfold sharedM; simp [h1]
   have HS := hid hs; clear hs
   go_enter Tryz.func210, Tryz.ntmps210
   go_wp2_with fail
   go_ret
   exact ⟨by rw [HS.out]; rfl, bal (Below.refl _ _) _⟩
 ·have hs : sharedM m p = false := by unfold sharedM; simp [h0]
  have HS := hid hs; clear hs
  go_enter Tryz.func210, Tryz.ntmps210
  go_wp2_with fail
  go_ret
  exact ⟨by rw [HS.out]; rfl, bal (Below.refl _ _) _⟩
theorem place_any (m : MacV) (ad : Option Addr) (cap : Nat) (s : Int) (w : World) (hg : m.gears ≤ 16) (h0 : 0 ≤ s) (h1 : s < 4 * m.gears) :
  Calls Tryz.prog 209 #[mV m ad cap, .int .i64 s] w fun r w' => r = .returned (.int .i64 (placeM m s)) ∧ Below w.heap.size w w' := by
 obtain ⟨g, hgq⟩ : ∃ g, g = s / 4 := ⟨_, rfl⟩
 obtain ⟨q, hq⟩ : ∃ q, q = s % 4 := ⟨_, rfl⟩
 have htd : s.tdiv 4 = g := by rw [hgq, Int.tdiv_eq_ediv_of_nonneg h0]
 have htm : s.tmod 4 = q := by rw [hq, Int.tmod_eq_emod_of_nonneg h0]
 have hp := place_prog h0 h1
 have hpl : placeM m s = if q = 0 then g else if q = 2 then (if m.ring = true ∧ g + 1 = m.gears then 0 else g + 1) else -1 := by unfold placeM; rw [hq, hgq]
 rw [← hgq] at hp
 have hq4 : q = 0 ∨ q = 1 ∨ q = 2 ∨ q = 3 := by omega
 have hg0 : 0 ≤ g ∧ g < m.gears := by omega
 rcases hq4 with rfl | rfl | rfl | rfl
 ·rw [if_pos rfl] at hpl
  have HP := hid hpl
  clear hpl hp hq hgq
  go_enter Tryz.func209, Tryz.ntmps209
  go_wp2_with fail
  go_ret
  exact ⟨by rw [HP.out]; rfl, bal (Below.refl _ _) _⟩
 ·rw [if_neg (by decide), if_neg (by decide)] at hpl
  have HP := hid hpl
  clear hpl hp hq hgq
  go_enter Tryz.func209, Tryz.ntmps209
  go_wp2_with fail
  go_ret
  exact ⟨by rw [HP.out]; rfl, bal (Below.refl _ _) _⟩
 ·rw [if_neg (by decide), if_pos rfl, ← hp] at hpl
  obtain ⟨P, hP⟩ : ∃ P, P = placeM m s := ⟨_, rfl⟩
  rw [← hP] at hpl ⊢
  have hPb : 0 ≤ P ∧ P ≤ 64 := by
   rw [hpl]
   have a := Int.emod_nonneg (g + 1) (b := m.gears + (if m.ring = true then 0 else 1)) (by split <;> omega)
   have b := Int.emod_lt_of_pos (g + 1) (b := m.gears + (if m.ring = true then 0 else 1)) (by split <;> omega)
   refine ⟨a, ?_⟩
   split at b <;> omega
  cases hr : m.ring
  ·rw [hr] at hpl
   simp only [Bool.false_eq_true, if_false] at hpl
   have hmod : (g + 1).tmod (m.gears + 1) = P := by rw [hpl, Int.tmod_eq_emod_of_nonneg (by omega)]
   have hnz : ¬ m.gears + 1 = 0 := by omega
   have hw1 : IntKind.i64.wrap g = g := IntWalk.i64_in _ (by omega)
   have hw2 : IntKind.i64.wrap (g + 1) = g + 1 := IntWalk.i64_in _ (by omega)
   have hw3 : IntKind.i64.wrap (m.gears + 1) = m.gears + 1 := IntWalk.i64_in _ (by omega)
   have hw : IntKind.i64.wrap P = P := IntWalk.i64_in _ (by omega)
   clear hpl hp hq hgq hP hPb
   go_enter Tryz.func209, Tryz.ntmps209
   go_wp2_with fail
   have hS := (SL.nil w).box (.cells #[.bool false, .int .i64 m.gears, .int .i64 m.turn, .slice ad m.sw.length cap] 76)
   have q1 := (hS.blk 0 rfl).1
   refine wp_region_q kR kR ?_
   repeat (first | ((with_reducible refine wpB_load F_boolM wU wU q1 wU ?_); (try simp only [Act.put, pA, pB, pC])) | ((refine wpB_call (.int .i64 1) wU (fun w' => ?_) (fun w' hw' => calls_below (btoi_any true w')) ?_); (focus (go_simp; done)); (try simp only [Act.put, pA, pB, pC])) |  ((with_reducible refine wpB_load (by first | exact F_int | exact F_u64s) wU wU (by assumption) wU ?_); (try simp only [Act.put, pA, pB, pC])) | ((refine wpQ_oneG ?_ wU (fun w' => ?_) ?_); rotate_left; (go_simp; rfl); (try simp only [Act.put, pA, pB, pC])))
   refine wpQuiet_nil ?_
   intro w1 hb1
   go_wp2_with fail
   go_ret
   exact ⟨rfl, bnext hS.b hb1⟩
  ·rw [hr] at hpl
   simp only [if_true, Int.add_zero] at hpl
   have hmod : (g + 1).tmod (m.gears) = P := by rw [hpl, Int.tmod_eq_emod_of_nonneg (by omega)]
   have hnz : ¬ m.gears = 0 := by omega
   have hw1 : IntKind.i64.wrap g = g := IntWalk.i64_in _ (by omega)
   have hw2 : IntKind.i64.wrap (g + 1) = g + 1 := IntWalk.i64_in _ (by omega)
   have hw3 : IntKind.i64.wrap m.gears = m.gears := IntWalk.i64_in _ (by omega)
   have hw : IntKind.i64.wrap P = P := IntWalk.i64_in _ (by omega)
   clear hpl hp hq hgq hP hPb
   go_enter Tryz.func209, Tryz.ntmps209
   go_wp2_with fail
   have hS := (SL.nil w).box (.cells #[.bool true, .int .i64 m.gears, .int .i64 m.turn, .slice ad m.sw.length cap] 76)
   have q1 := (hS.blk 0 rfl).1
   refine wp_region_q kR kR ?_
   repeat (first | ((with_reducible refine wpB_load F_boolM wU wU q1 wU ?_); (try simp only [Act.put, pA, pB, pC])) | ((refine wpB_call (.int .i64 0) wU (fun w' => ?_) (fun w' hw' => calls_below (btoi_any false w')) ?_); (focus (go_simp; done)); (try simp only [Act.put, pA, pB, pC])) |  ((with_reducible refine wpB_load (by first | exact F_int | exact F_u64s) wU wU (by assumption) wU ?_); (try simp only [Act.put, pA, pB, pC])) | ((refine wpQ_oneG ?_ wU (fun w' => ?_) ?_); rotate_left; (go_simp; rfl); (try simp only [Act.put, pA, pB, pC])))
   refine wpQuiet_nil ?_
   intro w1 hb1
   go_wp2_with fail
   go_ret
   exact ⟨rfl, bnext hS.b hb1⟩
 ·rw [if_neg (by decide), if_neg (by decide)] at hpl
  have HP := hid hpl
  clear hpl hp hq hgq
  go_enter Tryz.func209, Tryz.ntmps209
  go_wp2_with fail
  go_ret
  exact ⟨by rw [HP.out]; rfl, bal (Below.refl _ _) _⟩
end Go.Proofs.YtngpopalpofhgaaGreatDoor

namespace Go.Proofs.YtngpopalpofhgaaGreatDoor
open Go.RowKit
set_option maxHeartbeats 2000000
set_option maxRecDepth 100000

/-- the first index of a number, or -1. -/
def idxL (l : List Int) (x : Int) : Int := if l.findIdx (· == x) < l.length then l.findIdx (· == x) else -1
theorem idxL_found {l : List Int} {x : Int} {k : Nat} (hk : k < l.length) (h : atD 0 l k = x) (hno : ∀ j : Nat, j < k → atD 0 l j ≠ x) : idxL l x = k := by
 have hat : ∀ (j : Nat) (hj : j < l.length), atD 0 l j = l[j] := fun j hj => by simp [atD, hj]
 have e : l.findIdx (· == x) = k := by
  rw [List.findIdx_eq hk]
  refine ⟨by rw [← hat k hk, h]; simp, fun j hj => ?_⟩
  have := hno j hj
  rw [hat j (by omega)] at this
  simpa using this
 unfold idxL
 rw [e, if_pos hk]
theorem idxL_none {l : List Int} {x : Int} (hno : ∀ j : Nat, j < l.length → atD 0 l j ≠ x) : idxL l x = -1 := by
 have e : l.findIdx (· == x) = l.length := by
  rw [List.findIdx_eq_length]
  intro y hy
  obtain ⟨i, hi, rfl⟩ := List.mem_iff_getElem.1 hy
  have := hno i hi
  simp [atD, hi] at this
  simpa using this
 unfold idxL
 rw [e, if_neg (by omega)]
theorem idxL_contains (l : List Int) (x : Int) : decide (0 ≤ idxL l x) = l.contains x := by
 by_cases h : ∃ k : Nat, k < l.length ∧ atD 0 l k = x
 ·have hm : x ∈ l := by obtain ⟨k, hk, e⟩ := h; rw [← e]; simp [atD, hk]
  have hlt : l.findIdx (· == x) < l.length := List.findIdx_lt_length_of_exists ⟨x, hm, by simp⟩
  unfold idxL
  rw [if_pos hlt]
  simp [hm]
 ·have hno : ∀ j : Nat, j < l.length → atD 0 l j ≠ x := fun j hj e => h ⟨j, hj, e⟩
  have hm : x ∉ l := fun hm => by
   obtain ⟨i, hi, e⟩ := List.mem_iff_getElem.1 hm
   exact hno i hi (by simp [atD, hi, e])
  rw [idxL_none hno]
  simp [hm]

theorem sIndex_any (a : Option Addr) (cap : Nat) (l : List Int) (x : Int) (w : World) (h : Ints w a cap l) :
  Calls Tryz.prog 102 #[.slice a l.length cap, .int .i64 x] w fun r w' => r = .returned (.int .i64 (idxL l x)) ∧ w = w' := by
 have hcap := h.le
 have hm := h.max
 go_enter Tryz.func102, Tryz.ntmps102
 go_wp2
 go_loop [8, 5] (fun i _ => ∃ k : Nat, k ≤ l.length ∧ i = .int .i64 k ∧ ∀ j : Nat, j < k → atD 0 l j ≠ x) (fun i _ => l.length - (intOf i).toNat)
 case atStart => exact ⟨0, by omega, rfl, fun j hj => by omega⟩
 case round =>
  obtain ⟨k, hk, rfl, hno⟩ := hrel
  by_cases hlt : k < l.length
  ·have HN := hid hno; clear hno
   by_cases e : atD 0 l k = x
   ·have hd : (x == atD 0 l k) = true := by simp [e]
    have hf := idxL_found hlt e HN.out
    have HF := hid hf; clear hf e
    go_wp2_with (with_reducible refine wpList_idx _ 0 E_ints F_int cInt1 wU wU (h) oD oD (fun _ => wU) (fun _ => ?_))
    go_ret
    exact ⟨by rw [HF.out]; rfl, rfl⟩
   ·have hd : (x == atD 0 l k) = false := by simpa using fun h => e h.symm
    have HE := hid e; clear e
    go_wp2_with (with_reducible refine wpList_idx _ 0 E_ints F_int cInt1 wU wU (h) oD oD (fun _ => wU) (fun _ => ?_))
    go_round
    case rel =>
     refine ⟨k + 1, by omega, by go_num, fun j hj => ?_⟩
     by_cases e : j = k
     ·subst e; exact HE.out
     ·exact HN.out j (by omega)
    case measure => simp [intOf]; omega
  ·have hkl : k = l.length := by omega
   subst hkl
   have hf := idxL_none hno
   have HF := hid hf; clear hf hno
   go_wp2
   go_ret
   exact ⟨by rw [HF.out]; rfl, rfl⟩
theorem sContains_any (a : Option Addr) (cap : Nat) (l : List Int) (x : Int) (w : World) (h : Ints w a cap l) :
  Calls Tryz.prog 206 #[.slice a l.length cap, .int .i64 x] w fun r w' => r = .returned (.bool (l.contains x)) ∧ w = w' := by
 have hc := idxL_contains l x
 have HI := hid (fun w h => sIndex_any a cap l x w h)
 obtain ⟨i, hi⟩ : ∃ i, i = idxL l x := ⟨_, rfl⟩
 rw [← hi] at hc HI
 have HC := hid hc
 clear hc hi
 go_enter Tryz.func206, Tryz.ntmps206
 go_wp2_with (go_at_call 102; refine (HI.out _ h).mono ?_; rintro e w' ⟨rfl, rfl⟩)
 go_ret
 exact ⟨by rw [← HC.out]; rfl, rfl⟩

theorem pair_any (m : MacV) (ad : Option Addr) (cap : Nat) (p : Int) (w : World) (hg : m.gears ≤ 16) (h0 : 0 ≤ p) (h1 : p < m.gears) :
  Calls Tryz.prog 211 #[mV m ad cap, .int .i64 p] w fun r w' => r = .returned (.agg #[.int .i64 (4 * befM m p + 2), .int .i64 (4 * p)]) ∧ Below w.heap.size w w' := by
 obtain ⟨B, hB⟩ : ∃ B, B = befM m p := ⟨_, rfl⟩
 have hbp := bef_prog h0 h1
 have hmod : (p + m.gears - 1).tmod m.gears = B := by rw [Int.tmod_eq_emod_of_nonneg (by omega), hbp, hB]
 have hnz : ¬ m.gears = 0 := by omega
 have hB0 : 0 ≤ B ∧ B < m.gears := by rw [hB]; unfold befM; split <;> omega
 have hw : IntKind.i64.wrap B = B := IntWalk.i64_in _ (by omega)
 rw [← hB]
 clear hbp hB
 go_enter Tryz.func211, Tryz.ntmps211
 have hS := ((SL.nil w).box (.cells (mC m ad cap) 76)).box (.cells #[.int .i64 0, .int .i64 0] 67)
 simp only [World.size_alloc] at hS
 go_wp2_with ((with_reducible refine wpList_stoR (us := #[.int .i64 (4 * B + 2), .int .i64 (4 * p)]) 0 wU wU (hS) wU kR wU wU ?_); intro w1 hS1)
 exact bodyPost_ret (results_cell rfl rfl A_two kR (hS1.blk 0 rfl).1) rfl ⟨rfl, hS1.b⟩
theorem over_any (m : MacV) (ad : Option Addr) (cap : Nat) (s : Int) (w : World) (hR : Ints w ad cap m.sw) (hg : m.gears ≤ 16) (h0 : 0 ≤ s) (h1 : s < 4 * m.gears) :
  Calls Tryz.prog 158 #[mV m ad cap, .int .i64 s] w fun r w' => r = .returned (.int .i64 (overM m s)) ∧ Below w.heap.size w w' := by
 have CP := fun w => place_any m ad cap s w hg h0 h1
 have hov : overM m s = if goesM m s then 4 * befM m (placeM m s) + 2 + 4 * placeM m s - s else s := rfl
 have hgo : goesM m s = (decide (0 ≤ placeM m s) && sharedM m (placeM m s) && !m.sw.contains (placeM m s)) := rfl
 obtain ⟨O, hO⟩ : ∃ O, O = overM m s := ⟨_, rfl⟩
 obtain ⟨p, hp⟩ : ∃ p, p = placeM m s := ⟨_, rfl⟩
 obtain ⟨gs, hgs⟩ : ∃ g, g = goesM m s := ⟨_, rfl⟩
 rw [← hO, ← hgs, ← hp] at hov
 rw [← hgs, ← hp] at hgo
 rw [← hp] at CP
 rw [← hO]
 have CS := fun w => shared_any m ad cap p w
 have CC := fun w (h : Ints w ad cap m.sw) => sContains_any ad cap m.sw p w h
 have hcap := hR.le
 have hmx := hR.max
 have HP := hid CP; have HC := hid CC
 have hS := (SL.nil w).box (.cells (mC m ad cap) 76)
 clear CP CC hO hgs hp
 by_cases hp0 : 0 ≤ p
 ·have hpd : decide (p < 0) = false := decide_eq_false (by omega)
  have hpn : ¬ p < 0 := by omega
  cases hsh : sharedM m p
  ·have : gs = false := by rw [hgo, hsh]; simp
   rw [this] at hov
   simp only [Bool.false_eq_true, if_false] at hov
   rw [hsh] at CS
   have HS := hid CS
   subst hov
   clear CS hsh hgo this
   go_enter Tryz.func158, Tryz.ntmps158
   go_wp2_with fail
   refine (HP.out _).mono ?_
   rintro e w1 ⟨rfl, b1⟩
   have hS1 := hS.mono b1
   have q1 := (hS1.blk 0 rfl).1
   go_wp2_with (with_reducible refine wpList_ldS (n := 4) (us := mC m ad cap) A_mach kR wU wU (by assumption) wU wU ?_)
   refine (HS.out _).mono ?_
   rintro e w2 ⟨rfl, b2⟩
   have hS2 := hS1.mono b2
   go_wp2_with fail
   go_ret
   exact ⟨rfl, hS2.b⟩
  ·rw [hsh] at CS
   have hp1 := (shared_iff.1 hsh).2.1
   have HS := hid CS
   clear CS
   cases hc : m.sw.contains p
   ·have : gs = true := by rw [hgo, hsh, hc]; simp [hp0]
    rw [this] at hov
    simp only [if_true] at hov
    have CC := HC.out
    rw [hc] at CC
    have HC2 := hid CC
    have CQ := fun w => pair_any m ad cap p w hg hp0 hp1
    obtain ⟨B, hB⟩ : ∃ B, B = befM m p := ⟨_, rfl⟩
    have hB0 : 0 ≤ B ∧ B < m.gears := by rw [hB]; unfold befM; split <;> omega
    rw [← hB] at CQ hov
    have HQ := hid CQ
    have HOV := hid hov
    clear CC HC CQ hov hB hsh hgo this hc
    go_enter Tryz.func158, Tryz.ntmps158
    go_wp2_with fail
    refine (HP.out _).mono ?_
    rintro e w1 ⟨rfl, b1⟩
    have hS1 := hS.mono b1
    have q1 := (hS1.blk 0 rfl).1
    go_wp2_with (with_reducible refine wpList_ldS (n := 4) (us := mC m ad cap) A_mach kR wU wU (by assumption) wU wU ?_)
    refine (HS.out _).mono ?_
    rintro e w2 ⟨rfl, b2⟩
    have hS2 := hS1.mono b2
    have q2 := (hS2.blk 0 rfl).1
    go_wp2_with (with_reducible refine wpList_ldB F_sliceM wU wU q2 wU ?_)
    refine (HC2.out _ (hR.below hS2.b)).mono ?_
    rintro e w' ⟨rfl, rfl⟩
    go_wp2_with (with_reducible refine wpList_ldS (n := 4) (us := mC m ad cap) A_mach kR wU wU (by assumption) wU wU ?_)
    refine (HQ.out _).mono ?_
    rintro e w3 ⟨rfl, b3⟩
    have hS3 := (hS2.mono b3)
    go_wp2_with fail
    go_ret
    exact ⟨by rw [HOV.out]; rfl, bal hS3.b _⟩
   ·have : gs = false := by rw [hgo, hsh, hc]; simp
    rw [this] at hov
    simp only [Bool.false_eq_true, if_false] at hov
    have CC := HC.out
    rw [hc] at CC
    have HC2 := hid CC
    subst hov
    clear CC HC hsh hgo this hc
    go_enter Tryz.func158, Tryz.ntmps158
    go_wp2_with fail
    refine (HP.out _).mono ?_
    rintro e w1 ⟨rfl, b1⟩
    have hS1 := hS.mono b1
    have q1 := (hS1.blk 0 rfl).1
    go_wp2_with (with_reducible refine wpList_ldS (n := 4) (us := mC m ad cap) A_mach kR wU wU (by assumption) wU wU ?_)
    refine (HS.out _).mono ?_
    rintro e w2 ⟨rfl, b2⟩
    have hS2 := hS1.mono b2
    have q2 := (hS2.blk 0 rfl).1
    go_wp2_with (with_reducible refine wpList_ldB F_sliceM wU wU q2 wU ?_)
    refine (HC2.out _ (hR.below hS2.b)).mono ?_
    rintro e w' ⟨rfl, rfl⟩
    go_wp2_with fail
    go_ret
    exact ⟨rfl, hS2.b⟩
 ·have : gs = false := by rw [hgo]; simp [hp0]
  rw [this] at hov
  simp only [Bool.false_eq_true, if_false] at hov
  subst hov
  clear CS hgo this
  go_enter Tryz.func158, Tryz.ntmps158
  go_wp2_with fail
  refine (HP.out _).mono ?_
  rintro e w1 ⟨rfl, b1⟩
  have hS1 := hS.mono b1
  go_wp2_with fail
  go_ret
  exact ⟨rfl, hS1.b⟩
theorem mnext_any (m : MacV) (ad : Option Addr) (cap : Nat) (s : Int) (w : World) (hR : Ints w ad cap m.sw) (hg : m.gears ≤ 16) (h0 : 0 ≤ s) (h1 : s < 4 * m.gears) :
  Calls Tryz.prog 104 #[mV m ad cap, .int .i64 s] w fun r w' => r = .returned (.int .i64 (nextM m s)) ∧ Below w.heap.size w w' := by
 obtain ⟨g, hgq⟩ : ∃ g, g = s / 4 := ⟨_, rfl⟩
 obtain ⟨q, hq⟩ : ∃ q, q = s % 4 := ⟨_, rfl⟩
 have htd : s.tdiv 4 = g := by rw [hgq, Int.tdiv_eq_ediv_of_nonneg h0]
 have htm : s.tmod 4 = q := by rw [hq, Int.tmod_eq_emod_of_nonneg h0]
 have hg0 : 0 ≤ g ∧ g < m.gears := by omega
 have hq0 : 0 ≤ q ∧ q < 4 := by omega
 have hrr := rot_rng (m := m) h0 h1
 have hro : rotM m s = 4 * g + (q + (if fwdM m g then 1 else 3)) % 4 := by unfold rotM; rw [hgq, hq]
 have CF := fun w => forwards_any m ad cap g w hg0.1 (by omega)
 have CO := fun w h => over_any m ad cap (rotM m s) w h hg hrr.1 hrr.2.1
 have hnx : nextM m s = overM m (rotM m s) := rfl
 rw [← hnx] at CO
 obtain ⟨N, hN⟩ : ∃ N, N = nextM m s := ⟨_, rfl⟩
 rw [← hN] at CO ⊢
 have hS := (SL.nil w).box (.cells (mC m ad cap) 76)
 have hcap := hR.le
 have hmx := hR.max
 cases hf : fwdM m g
 ·rw [hf] at CF hro
  simp only [Bool.false_eq_true, if_false] at hro
  rw [hro] at CO
  have hmd : (q + 3).tmod 4 = (q + 3) % 4 := Int.tmod_eq_emod_of_nonneg (by omega)
  obtain ⟨z, hz⟩ : ∃ z, z = (q + 3) % 4 := ⟨_, rfl⟩
  have hz0 : 0 ≤ z ∧ z < 4 := by omega
  rw [← hz] at hmd CO
  have HF := hid CF; have HO := hid CO
  clear CF CO hro hnx hN hrr hgq hq hz hf
  go_enter Tryz.func104, Tryz.ntmps104
  go_wp2_with fail
  refine (HF.out _).mono ?_
  rintro e w1 ⟨rfl, b1⟩
  have hS1 := hS.mono b1
  have q1 := (hS1.blk 0 rfl).1
  go_wp2_with (with_reducible refine wpList_ldS (n := 4) (us := mC m ad cap) A_mach kR wU wU (by assumption) wU wU ?_)
  refine (HO.out _ (hR.below hS1.b)).mono ?_
  rintro e w2 ⟨rfl, b2⟩
  go_wp2_with fail
  go_ret
  exact ⟨rfl, bnext hS1.b b2⟩
 ·rw [hf] at CF hro
  simp only [if_true] at hro
  rw [hro] at CO
  have hmd : (q + 1).tmod 4 = (q + 1) % 4 := Int.tmod_eq_emod_of_nonneg (by omega)
  obtain ⟨z, hz⟩ : ∃ z, z = (q + 1) % 4 := ⟨_, rfl⟩
  have hz0 : 0 ≤ z ∧ z < 4 := by omega
  rw [← hz] at hmd CO
  have HF := hid CF; have HO := hid CO
  clear CF CO hro hnx hN hrr hgq hq hz hf
  go_enter Tryz.func104, Tryz.ntmps104
  go_wp2_with fail
  refine (HF.out _).mono ?_
  rintro e w1 ⟨rfl, b1⟩
  have hS1 := hS.mono b1
  have q1 := (hS1.blk 0 rfl).1
  go_wp2_with (with_reducible refine wpList_ldS (n := 4) (us := mC m ad cap) A_mach kR wU wU (by assumption) wU wU ?_)
  refine (HO.out _ (hR.below hS1.b)).mono ?_
  rintro e w2 ⟨rfl, b2⟩
  go_wp2_with fail
  go_ret
  exact ⟨rfl, bnext hS1.b b2⟩
end Go.Proofs.YtngpopalpofhgaaGreatDoor

namespace Go.Proofs.YtngpopalpofhgaaGreatDoor
open Go.RowKit
set_option maxHeartbeats 8000000
set_option maxRecDepth 100000

section
variable {ops : Array Oper} {rest : List Oper} {a : Act} {Qa : Act → Prop} {w : World} {d : Option Tmp} {ty : TypeId} {p : String} {af : Array Edge} {g : Option (Nat × Bool)} {x y : Operand} {ts : Array TypeId} {b : Bool} {e : Int}
/-- 'when' in a quiet region. -/
theorem wpB_when (hx : a.eval x = .bool b) (hy : a.eval y = .int .i64 e) (hg : Region.wanted (⟨d, .call { callee := .value (.func 154), args := #[x, y], argTypes := ts }, ty, p, af, g⟩ : Oper) (yielded ops a.tmps) = true)
  (h : wpQuiet Tryz.prog ops (Below w.heap.size w) Qa rest (a.put d (.int .i64 (if b then e else 0)))) :
  wpQuiet Tryz.prog ops (Below w.heap.size w) Qa (⟨d, .call { callee := .value (.func 154), args := #[x, y], argTypes := ts }, ty, p, af, g⟩ :: rest) a := by
 refine wpB_call (f := 154) (args := #[.bool b, .int .i64 e]) (.int .i64 (if b then e else 0)) hg (fun w' => ?_) (fun w' _ => calls_below (mwhen_any b e w')) h
 have e1 : a.eval (.func 154) = .func (.func 154) #[] #[] := rfl
 generalize a.eval = ev at hx hy e1
 simp [execOp, resolve, invoke, hx, hy, e1, Deferred.ofValue, go_sem, Tryz.func154]
end

theorem firstE_head {a : Int} {l : List Int} (h : a ≠ 0) : firstE (a :: l) = a := by rw [firstE_cons]; simp [h]
theorem firstE_z (l : List Int) : firstE (0 :: l) = firstE l := by rw [firstE_cons]; simp
theorem swGo_step (m : MacV) (k : Nat) (h : k < m.sw.length) (o : Option Int) : swGo m o (m.sw.drop k) = if sharedM m (atD 0 m.sw k) = false then 10 else match o with
  | none => swGo m (some (atD 0 m.sw k)) (m.sw.drop (k + 1))
  | some b => if atD 0 m.sw k ≤ b then 11 else swGo m (some (atD 0 m.sw k)) (m.sw.drop (k + 1)) := by
 have e : m.sw.drop k = atD 0 m.sw k :: m.sw.drop (k + 1) := by rw [List.drop_eq_getElem_cons h]; simp [atD, h]
 rw [e]
 cases o <;> rfl
end Go.Proofs.YtngpopalpofhgaaGreatDoor
