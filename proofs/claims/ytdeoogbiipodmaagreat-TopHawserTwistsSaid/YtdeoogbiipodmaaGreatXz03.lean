/- Contracts and plain facts that the claim uses (CiA EnP GsP BrB MxA RtP RtM SpB NfP NfQ MaP MaQ MbP NfR NfS NfT NfU). Conditions: as each one states. -/
import Derived.Test.YtdeoogbiipodmaaGreatProg
import Derived.WalkKit
import Derived.WalkSpells
import Derived.Maps.AppendAt
import Derived.Deep.Quiet
import Derived.Maps.Own
import Derived.Maps.OwnSet
import Derived.Maps.Views
import Derived.WalkLawsBesides
import Derived.Laws.EntriesVeiled
import Derived.Deep.QuietTactic
import Derived.BigQuiet
import Derived.RangeFuncNested
import Derived.RangeFuncBound
import Derived.RangeFuncCalls
import Derived.RangeFuncLeaves
import Derived.RangeFuncFrom
import Derived.Shelf.Abstract
import Derived.Shelf.RegionOpen
import Derived.OwnWalkIn
import Derived.TacticsInMore
import Derived.LoopNIn
import Derived.LoopIn
import Derived.Shelf.Strings.Trim
import Derived.Shelf.Strings.SlTrimAscii
import Derived.Shelf.Strings.Repeat
import Derived.Shelf.Strings.OnBuilder
import Derived.Shelf.Strconv.Itoa1
import Derived.Shelf.Strconv.Itoa3
import Derived.Shelf.LaysM
import Derived.Ground.Names2Prog
import Derived.Lib.OthersKept
import Derived.Deep.RegionHeld3
import Derived.Deep.AppendLies
import Derived.Deep.RegionHeldLaw
import Derived.Deep.RegionLaw
import Derived.StillTail
import Derived.Laws.Tables
import Derived.IntWalk
import Derived.Laws.CopyOwn
import Derived.BigRegion
import Derived.ChangeAlike
import Derived.Shelf.Bits.Mul64
import Derived.Lib.ItoaLen
import Derived.Lib.ItoaMem
import Derived.Sort.LoopGhostIn
import Derived.Maps.RangeWalk
import Derived.Maps.Ext
import Derived.Test.YtdeoogbiipodmaaGreatXz01
import Derived.Test.YtdeoogbiipodmaaGreatXz02
set_option linter.all false

namespace Go.Proofs.YtdeoogbiipodmaaGreat
open Go.RowKit
set_option maxHeartbeats 1000000
set_option maxRecDepth 100000

structure Stand (l : List Int) : Prop where
 lo : 4 ≤ l.length
 hi : l.length ≤ 64
 rng : ∀ x ∈ l, 0 ≤ x ∧ x ≤ 64
 ne : ∀ i j : Int, 0 ≤ i → i < l.length → 0 ≤ j → j < l.length → atD 0 l i ≠ 0 → atD 0 l i = atD 0 l j → i = j

def sw (f t j : Int) : Int := if j = f then t else if j = t then f else j
theorem sw_rng {n f t j : Int} (hf : 0 ≤ f ∧ f < n) (ht : 0 ≤ t ∧ t < n) (hj : 0 ≤ j ∧ j < n) : 0 ≤ sw f t j ∧ sw f t j < n := by
 unfold sw; split
 ·exact ht
 ·split
  ·exact hf
  ·exact hj
theorem sw_sw (f t j : Int) : sw f t (sw f t j) = j := by
 unfold sw
 by_cases h1 : j = f
 ·subst h1; by_cases h2 : t = j <;> simp [h2]
 ·by_cases h2 : j = t
  ·subst h2; simp [h1]
  ·simp [h1, h2]
theorem legalN_iff {l : List Int} {f t : Int} : legalN l f t = 0 ↔ (0 ≤ f ∧ f < l.length) ∧ (0 ≤ t ∧ t < l.length) ∧ atD 0 l f ≠ 0 ∧ atD 0 l t = 0 := by
 unfold legalN inB
 by_cases h1 : (decide (0 ≤ f) && decide (f < (l.length : Int)) && (decide (0 ≤ t) && decide (t < (l.length : Int)))) = true
 ·rw [if_pos h1]
  simp only [Bool.and_eq_true, decide_eq_true_eq] at h1
  by_cases h2 : atD 0 l f = 0
  ·rw [if_neg (by simp [h2])]; constructor
   ·intro h; omega
   ·intro h; exact absurd h2 h.2.2.1
  ·rw [if_pos (by simpa using h2)]
   by_cases h3 : atD 0 l t = 0
   ·rw [if_pos (by simp [h3])]; exact ⟨fun _ => ⟨h1.1, h1.2, h2, h3⟩, fun _ => rfl⟩
   ·rw [if_neg (by simpa using h3)]; constructor
    ·intro h; omega
    ·intro h; exact absurd h.2.2.2 h3
 ·rw [if_neg h1]
  simp only [Bool.and_eq_true, decide_eq_true_eq] at h1
  constructor
  ·intro h; omega
  ·intro h; exact absurd ⟨h.1, h.2.1⟩ h1
theorem nextL_length (l : List Int) (f t : Int) : (nextL l f t).length = l.length := by simp [nextL]
theorem nextL_at {l : List Int} {f t : Int} (h : legalN l f t = 0) {j : Int} (hj : 0 ≤ j) : atD 0 (nextL l f t) j = atD 0 l (sw f t j) := by
 obtain ⟨hf, ht, hf0, ht0⟩ := legalN_iff.1 h
 unfold nextL sw
 rw [atD_set hf.1 (by simp; exact hf.2) hj, atD_set ht.1 ht.2 hj]
 by_cases h1 : j = f
 ·rw [if_pos h1, if_pos h1, ht0]
 ·rw [if_neg h1, if_neg h1]; split <;> rfl

/-- all moves are legal, one after the other. -/
def okAll : List Int → List (Int × Int) → Prop
 | _, [] => True
 | s, m :: r => legalN s m.1 m.2 = 0 ∧ okAll (nextL s m.1 m.2) r
def runL : List Int → List (Int × Int) → List Int
 | s, [] => s
 | s, m :: r => runL (nextL s m.1 m.2) r
/-- from where the thread of a slot comes. -/
def mvT : List (Int × Int) → Int → Int
 | [], j => j
 | m :: r, j => sw m.1 m.2 (mvT r j)
theorem runL_len : ∀ (ms : List (Int × Int)) (s : List Int), (runL s ms).length = s.length
 | [], s => rfl
 | m :: r, s => by rw [runL, runL_len r, nextL_length]
/-- the same slots are free. -/
def free2 (s x : List Int) : Prop := x.length = s.length ∧ ∀ j : Int, 0 ≤ j → j < s.length → (atD 0 x j = 0 ↔ atD 0 s j = 0)
theorem free2_legal {s x : List Int} (h : free2 s x) {f t : Int} (hl : legalN s f t = 0) : legalN x f t = 0 := by
 obtain ⟨hf, ht, hf0, ht0⟩ := legalN_iff.1 hl
 refine legalN_iff.2 ⟨by rw [h.1]; exact hf, by rw [h.1]; exact ht, ?_, ?_⟩
 ·intro e; exact hf0 ((h.2 f hf.1 hf.2).1 e)
 ·exact (h.2 t ht.1 ht.2).2 ht0
theorem free2_next {s x : List Int} (h : free2 s x) {f t : Int} (hl : legalN s f t = 0) : free2 (nextL s f t) (nextL x f t) := by
 obtain ⟨hf, ht, _, _⟩ := legalN_iff.1 hl
 refine ⟨by rw [nextL_length, nextL_length, h.1], fun j j0 j1 => ?_⟩
 rw [nextL_length] at j1
 rw [nextL_at hl j0, nextL_at (free2_legal h hl) j0]
 obtain ⟨a, b⟩ := sw_rng hf ht ⟨j0, j1⟩
 exact h.2 _ a b
theorem free2_ok : ∀ (ms : List (Int × Int)) (s x : List Int), free2 s x → okAll s ms → okAll x ms
 | [], _, _, _, _ => trivial
 | m :: r, s, x, h, ho => ⟨free2_legal h ho.1, free2_ok r _ _ (free2_next h ho.1) ho.2⟩
theorem mvT_rng : ∀ (ms : List (Int × Int)) (s : List Int), okAll s ms → ∀ j : Int, 0 ≤ j → j < s.length → 0 ≤ mvT ms j ∧ mvT ms j < s.length
 | [], _, _, j, j0, j1 => ⟨j0, j1⟩
 | m :: r, s, h, j, j0, j1 => by
   obtain ⟨hf, ht, _, _⟩ := legalN_iff.1 h.1
   have := mvT_rng r (nextL s m.1 m.2) h.2 j j0 (by rw [nextL_length]; exact j1)
   rw [nextL_length] at this
   exact sw_rng hf ht this
theorem mvT_inj : ∀ (ms : List (Int × Int)) (i j : Int), mvT ms i = mvT ms j → i = j
 | [], _, _, h => h
 | m :: r, i, j, h => by
   rw [mvT, mvT] at h
   have := congrArg (sw m.1 m.2) h
   rw [sw_sw, sw_sw] at this
   exact mvT_inj r i j this
theorem runL_at : ∀ (ms : List (Int × Int)) (s : List Int), okAll s ms → ∀ j : Int, 0 ≤ j → j < s.length → atD 0 (runL s ms) j = atD 0 s (mvT ms j)
 | [], _, _, _, _, _ => rfl
 | m :: r, s, h, j, j0, j1 => by
   have hr := mvT_rng r (nextL s m.1 m.2) h.2 j j0 (by rw [nextL_length]; exact j1)
   rw [runL, runL_at r _ h.2 j j0 (by rw [nextL_length]; exact j1), nextL_at h.1 hr.1, mvT]
theorem stand_run {s : List Int} {ms : List (Int × Int)} (hs : Stand s) (h : okAll s ms) : Stand (runL s ms) := by
 refine ⟨by rw [runL_len]; exact hs.lo, by rw [runL_len]; exact hs.hi, ?_, ?_⟩
 ·intro x hx
  obtain ⟨i, hi, rfl⟩ := List.mem_iff_getElem.1 hx
  have e : (runL s ms)[i] = atD 0 (runL s ms) (i : Int) := by simp [atD, hi]
  rw [runL_len] at hi
  have hr := mvT_rng ms s h i (by omega) (by omega)
  rw [e, runL_at ms s h i (by omega) (by omega)]
  exact hs.rng _ (atD_memZ hr.1 hr.2)
 ·intro i j i0 i1 j0 j1 hne e
  rw [runL_len] at i1 j1
  rw [runL_at ms s h i i0 i1] at hne e
  rw [runL_at ms s h j j0 j1] at e
  have hi := mvT_rng ms s h i i0 i1
  have hj := mvT_rng ms s h j j0 j1
  exact mvT_inj ms i j (hs.ne _ _ hi.1 hi.2 hj.1 hj.2 hne e)

/-- what a round without an error does: the permutation leads each thread to its place. -/
structure RoundP (s : List Int) (ms : List (Int × Int)) (p : List Int) : Prop where
 st : Stand s
 ok : okAll s ms
 len : p.length = s.length
 sh : ∀ j : Int, 0 ≤ j → j < s.length → (atD 0 s j = 0 ↔ atD 0 (runL s ms) j = 0)
 fr : ∀ i : Int, 0 ≤ i → i < s.length → atD 0 s i = 0 → atD 0 p i = i
 rng : ∀ i : Int, 0 ≤ i → i < s.length → 0 ≤ atD 0 p i ∧ atD 0 p i < s.length
 mv : ∀ i : Int, 0 ≤ i → i < s.length → atD 0 s i ≠ 0 → mvT ms (atD 0 p i) = i
section
variable {s : List Int} {ms : List (Int × Int)} {p : List Int}
theorem RoundP.inj (h : RoundP s ms p) : ∀ i j : Int, 0 ≤ i → i < s.length → 0 ≤ j → j < s.length → atD 0 p i = atD 0 p j → i = j := by
 intro i j i0 i1 j0 j1 e
 have key : ∀ i j : Int, 0 ≤ i → i < s.length → 0 ≤ j → j < s.length → atD 0 p i = atD 0 p j → atD 0 s i = 0 → atD 0 s j ≠ 0 → False := by
  intro i j i0 i1 j0 j1 e hz hn
  rw [h.fr i i0 i1 hz] at e
  have hm := h.mv j j0 j1 hn
  rw [← e] at hm
  have := (h.sh i i0 i1).1 hz
  rw [runL_at ms s h.ok i i0 i1, hm] at this
  exact hn this
 by_cases a : atD 0 s i = 0
 ·by_cases b : atD 0 s j = 0
  ·rw [h.fr i i0 i1 a, h.fr j j0 j1 b] at e; exact e
  ·exact (key i j i0 i1 j0 j1 e a b).elim
 ·by_cases b : atD 0 s j = 0
  ·exact (key j i j0 j1 i0 i1 e.symm b a).elim
  ·rw [← h.mv i i0 i1 a, ← h.mv j j0 j1 b, e]
theorem RoundP.isP (h : RoundP s ms p) : IsP p :=
 ⟨fun x a b => by have := h.rng x a (by rw [← h.len]; exact b); rw [h.len]; exact this, fun x y a b c d e => h.inj x y a (by rw [← h.len]; exact b) c (by rw [← h.len]; exact d) e⟩

/-- one more round. -/
theorem RoundP.next (h : RoundP s ms p) {x : List Int} (hx : free2 s x) (hsx : Stand x) : okAll x ms ∧ free2 s (runL x ms) ∧ Stand (runL x ms) ∧ ∀ i : Int, 0 ≤ i → i < s.length → atD 0 (runL x ms) (atD 0 p i) = atD 0 x i := by
 have ho := free2_ok ms s x hx h.ok
 have hl := hx.1
 have hat : ∀ j : Int, 0 ≤ j → j < s.length → atD 0 (runL x ms) j = atD 0 x (mvT ms j) := fun j j0 j1 => runL_at ms x ho j j0 (by rw [hl]; exact j1)
 have hz : ∀ j : Int, 0 ≤ j → j < s.length → (atD 0 (runL x ms) j = 0 ↔ atD 0 s j = 0) := by
  intro j j0 j1
  have hr := mvT_rng ms s h.ok j j0 j1
  rw [hat j j0 j1, hx.2 _ hr.1 hr.2, h.sh j j0 j1, runL_at ms s h.ok j j0 j1]
 refine ⟨ho, ⟨by rw [runL_len, hl], hz⟩, stand_run hsx ho, ?_⟩
 intro i i0 i1
 obtain ⟨a, b⟩ := h.rng i i0 i1
 by_cases hn : atD 0 s i = 0
 ·rw [h.fr i i0 i1 hn]
  have h1 := (hz i i0 i1).2 hn
  have h2 := (hx.2 i i0 i1).2 hn
  rw [h1, h2]
 ·rw [hat _ a b, h.mv i i0 i1 hn]

def nowL (s : List Int) (ms : List (Int × Int)) : Nat → List Int
 | 0 => s
 | n + 1 => runL (nowL s ms n) ms
theorem RoundP.now (h : RoundP s ms p) : ∀ n, free2 s (nowL s ms n) ∧ Stand (nowL s ms n) ∧ ∀ i : Int, 0 ≤ i → i < s.length → atD 0 (nowL s ms n) (itP p i n) = atD 0 s i
 | 0 => ⟨⟨rfl, fun _ _ _ => Iff.rfl⟩, h.st, fun _ _ _ => rfl⟩
 | n + 1 => by
   obtain ⟨a, b, c⟩ := h.now n
   obtain ⟨_, d, e, f⟩ := h.next a b
   refine ⟨d, e, fun i i0 i1 => ?_⟩
   have hr := itP_rng h.isP i0 (by rw [h.len]; exact i1) n
   rw [h.len] at hr
   rw [nowL, itP, f _ hr.1 hr.2, c i i0 i1]
theorem RoundP.back (h : RoundP s ms p) (n : Nat) : nowL s ms n = s ↔ ∀ i : Int, 0 ≤ i → i < s.length → itP p i n = i := by
 obtain ⟨a, b, c⟩ := h.now n
 have hid : ∀ i : Int, 0 ≤ i → i < s.length → atD 0 s i = 0 → ∀ n, itP p i n = i := by
  intro i i0 i1 hz n
  induction n with
  | zero => rfl
  | succ n ih => rw [itP, ih]; exact h.fr i i0 i1 hz
 constructor
 ·intro e i i0 i1
  by_cases hz : atD 0 s i = 0
  ·exact hid i i0 i1 hz n
  ·have := c i i0 i1
   rw [e] at this
   have hr := itP_rng h.isP i0 (by rw [h.len]; exact i1) n
   rw [h.len] at hr
   exact (h.st.ne i _ i0 i1 hr.1 hr.2 hz this.symm).symm
 ·intro e
  refine ext_atD a.1 (fun j j0 j1 => ?_)
  rw [a.1] at j1
  have := c j j0 j1
  rwa [e j j0 j1] at this
end

theorem itP_mul {p : List Int} {i : Int} {d : Nat} (h : itP p i d = i) : ∀ q : Nat, itP p i (q * d) = i
 | 0 => by simp [itP]
 | q + 1 => by rw [Nat.succ_mul, itP_add, h, itP_mul h q]
end Go.Proofs.YtdeoogbiipodmaaGreat

namespace Go.Proofs.YtdeoogbiipodmaaGreat
open Go.RowKit
set_option maxHeartbeats 1000000
set_option maxRecDepth 100000

theorem isP_surj {p : List Int} (hp : IsP p) {y : Int} (h0 : 0 ≤ y) (h1 : y < p.length) : ∃ i : Nat, i < p.length ∧ atD 0 p i = y := by
 obtain ⟨d, a, _, c⟩ := itP_back hp h0 h1
 obtain ⟨e, rfl⟩ : ∃ e, d = e + 1 := ⟨d - 1, by omega⟩
 have hr := itP_rng hp h0 h1 e
 exact ⟨(itP p y e).toNat, by omega, by rw [Int.toNat_of_nonneg hr.1]; exact c⟩

theorem idL_at {n : Nat} {j : Int} (h0 : 0 ≤ j) (h1 : j < n) : atD 0 (idL n) j = j := by
 unfold idL atD
 rw [List.getD_eq_getElem?_getD, List.getElem?_map, List.getElem?_range (by omega)]
 simp; omega
theorem idL_isP (n : Nat) : IsP (idL n) := by
 refine ⟨fun x x0 x1 => ?_, fun x y x0 x1 y0 y1 e => ?_⟩
 ·rw [idL_len] at x1 ⊢; rw [idL_at x0 x1]; exact ⟨x0, x1⟩
 ·rw [idL_len] at x1 y1; rwa [idL_at x0 x1, idL_at y0 y1] at e
def invK (p : List Int) (k : Nat) : List Int := (List.range k).foldl (fun (o : List Int) (i : Nat) => o.set (atD 0 p i).toNat (i : Int)) (List.replicate p.length 0)
def invL (p : List Int) : List Int := invK p p.length
theorem invK_succ (p : List Int) (k : Nat) : invK p (k + 1) = (invK p k).set (atD 0 p k).toNat (k : Int) := by unfold invK; rw [List.range_succ, List.foldl_append]; rfl
theorem invK_len (p : List Int) : ∀ k, (invK p k).length = p.length
 | 0 => by simp [invK]
 | k + 1 => by rw [invK_succ, List.length_set, invK_len p k]
theorem invK_at {p : List Int} (hp : IsP p) : ∀ k, k ≤ p.length → ∀ i : Nat, i < k → atD 0 (invK p k) (atD 0 p i) = i
 | 0, _, i, h => by omega
 | k + 1, hk, i, h => by
   have hi := hp.rng i (by omega) (by omega)
   have hk1 := hp.rng k (by omega) (by omega)
   rw [invK_succ, atD_set hk1.1 (by rw [invK_len]; exact hk1.2) hi.1]
   by_cases e : i = k
   · subst e; rw [if_pos rfl]
   · rw [if_neg (fun e2 => e (by have := hp.inj i k (by omega) (by omega) (by omega) (by omega) e2; omega))]
     exact invK_at hp k (by omega) i (by omega)
theorem invL_len (p : List Int) : (invL p).length = p.length := invK_len p _
theorem invL_left {p : List Int} (hp : IsP p) {i : Int} (h0 : 0 ≤ i) (h1 : i < p.length) : atD 0 (invL p) (atD 0 p i) = i := by
 have := invK_at hp p.length (Nat.le_refl _) i.toNat (by omega)
 rwa [Int.toNat_of_nonneg h0] at this
theorem invL_right {p : List Int} (hp : IsP p) {y : Int} (h0 : 0 ≤ y) (h1 : y < p.length) : atD 0 p (atD 0 (invL p) y) = y := by
 obtain ⟨i, hi, rfl⟩ := isP_surj hp h0 h1
 rw [invL_left hp (by omega) (by omega)]
theorem invL_isP {p : List Int} (hp : IsP p) : IsP (invL p) := by
 refine ⟨fun y y0 y1 => ?_, fun x y x0 x1 y0 y1 e => ?_⟩
 ·rw [invL_len] at y1 ⊢
  obtain ⟨i, hi, rfl⟩ := isP_surj hp y0 y1
  rw [invL_left hp (by omega) (by omega)]; omega
 ·rw [invL_len] at x1 y1
  rw [← invL_right hp x0 x1, ← invL_right hp y0 y1, e]
end Go.Proofs.YtdeoogbiipodmaaGreat

namespace Go.Proofs.YtdeoogbiipodmaaGreat
set_option maxRecDepth 100000
def sgnI (x : Int) : Int := if x < 0 then -1 else 1
end Go.Proofs.YtdeoogbiipodmaaGreat

namespace Go.Proofs.YtdeoogbiipodmaaGreat
open Go.RowKit
set_option maxHeartbeats 4000000
set_option maxRecDepth 100000
theorem babs_any (n : Int) (w : World) (h : -9223372036854775807 ≤ n) (h2 : n ≤ 9223372036854775807) :
  Calls Tryz.prog 33 #[.int .i64 n] w fun r w' => r = .returned (.int .i64 (absI n)) ∧ w = w' := by
 have hw : IntKind.i64.wrap (-n) = -n := IntWalk.i64_in _ (by omega)
 have hm : max n (-n) = absI n := by unfold absI; split <;> omega
 go_enter Tryz.func33, Tryz.ntmps33
 go_wp2
 go_ret
 exact ⟨by first | rfl | rw [← hm] | simp [hm], rfl⟩
theorem bsign_any (n : Int) (w : World) (h : n ≠ 0) :
  Calls Tryz.prog 83 #[.int .i64 n] w fun r w' => r = .returned (.int .i64 (sgnI n)) ∧ w = w' := by
 have hm : max (-1) (min 1 n) = sgnI n := by unfold sgnI; split <;> omega
 go_enter Tryz.func83, Tryz.ntmps83
 go_wp2
 go_ret
 exact ⟨by first | rfl | rw [← hm] | simp [hm], rfl⟩
/-- the identity while it is set. -/
def idZ (n k : Nat) : List Int := idL k ++ List.replicate (n - k) 0
theorem idZ_len {n k : Nat} (h : k ≤ n) : (idZ n k).length = n := by unfold idZ; rw [List.length_append, idL_len, List.length_replicate]; omega
theorem idZ_set {n k : Nat} (h : k < n) : (idZ n k).set (k : Int).toNat (k : Int) = idZ n (k + 1) := by
 unfold idZ
 rw [show (k : Int).toNat = k by omega, List.set_append_right _ _ (by rw [idL_len]; omega), idL_len, Nat.sub_self, show n - k = (n - (k + 1)) + 1 by omega, List.replicate_succ, List.set_cons_zero, idL_succ]
 simp
theorem bidentity_any (n : Nat) (w : World) (hn : n ≤ 1000) :
  Calls Tryz.prog 62 #[.int .i64 n] w fun r w' => ∃ v, r = .returned v ∧ OwnI w.heap.size w' v (idL n) ∧ Below w.heap.size w w' := by
 have hS0 := SL.nil w
 go_enter Tryz.func62, Tryz.ntmps62
 go_wp2_with ((with_reducible refine wpList_makeL (c := cInt) (n) (0) E_ints cInt1 wU wU (by omega) (by omega) (hS0) ?_); intro ad w1 hS1)
 have hz : List.replicate n (0 : Int) = idZ n 0 := by unfold idZ idL; simp
 rw [hz] at hS1
 go_loopw [9, 4] (fun iv _ wr => ∃ k : Nat, k ≤ n ∧ iv = .int .i64 k ∧ SL w.heap.size w wr [pOwn cInt 1 3 (.slice ad n n) (idZ n k)]) (fun iv _ _ => n - (intOf iv).toNat)
 case atStart => exact ⟨0, by omega, rfl, hS1⟩
 case round =>
  clear hS1 hz
  obtain ⟨k, hk, rfl, hSr⟩ := hrel
  have hl := idZ_len hk
  by_cases hlt : k < n
  ·have hs := idZ_set hlt
   have HS := hid hs
   have HL := hid hl
   obtain ⟨O, hO⟩ : ∃ O, O = idZ n k := ⟨_, rfl⟩
   rw [← hO] at hSr hl
   have HO := hid hO
   clear hs hO
   have hkO : (k : Int) < (O.length : Int) := by rw [hl]; omega
   go_wp2_with ((with_reducible refine wpList_storeL (u := (k : Int)) 0 E_ints cInt1 (sto_int) wU wU (hSr) wU (by first | omega | (simp; done) | (simp; omega)) (by first | omega | (simp; done) | (simp; omega)) (fun _ => wU) (fun _ => wU) ?_); intro _ w7 hS7)
   exact ⟨⟨k + 1, by omega, by go_num, by rw [← HS.out, ← HO.out]; exact hS7⟩, by simp [intOf]; omega⟩
  ·have hkk : k = n := by omega
   subst hkk
   have hid' : idZ k k = idL k := by unfold idZ; simp
   rw [hid'] at hSr
   clear hid' hl hlt
   go_wp2_with fail
   go_ret
   exact ⟨_, rfl, hSr.own 0 rfl, hSr.b⟩
end Go.Proofs.YtdeoogbiipodmaaGreat

namespace Go.Proofs.YtdeoogbiipodmaaGreat
open Go.RowKit
set_option maxRecDepth 100000
theorem F_sls : Flat Tryz.prog 31 := ⟨_, Tryz.underlying31, rfl⟩
section
variable {ops : Array Oper} {rest : List Oper} {a : Act} {Q : Exit → Act → World → Prop} {w : World} {ty : TypeId} {p : String} {af : Array Edge}
/-- a store into a cell that is known. -/
theorem wpList_stoAt {e : TypeId} {x y : Operand} {pa : Addr} {u v : Value} (hsto : (w.cell? pa).isSome = true → w.frozen? pa = false → (Instr.storeAt e (.pointer (some pa)) v).run Tryz.prog w = .ok () (w.setCell pa v)) (hx : a.eval x = .pointer (some pa)) (hy : a.eval y = v)
  (hc : w.cell? pa = some u) (hf : w.frozen? pa = false) (h : wpList Tryz.prog ops Q rest (a.put none undef) (w.setCell pa v)) :
  wpList Tryz.prog ops Q (⟨none, .store e x y, ty, p, af, none⟩ :: rest) a w := by
 refine wpList_plain rfl fun K hK' => ?_
 have hs := hsto (by rw [hc]; rfl) hf
 unfold Oper.wp
 simp only [execOp, hx, hy]
 simp [hs, Result.andThen]
 exact hK' _ _ h
end
/-- the handles H lead to the rows of M. -/
def mxQ (H : List SlH) (M : List (List Int)) : List (SlH × List Int) := H.zip M
section
variable {B : Nat} {w0 w : World} {pre : List Pc}
end
end Go.Proofs.YtdeoogbiipodmaaGreat

namespace Go.Proofs.YtdeoogbiipodmaaGreat
open Go.RowKit
set_option maxHeartbeats 1000000
set_option maxRecDepth 100000

open Go.Maps in
/-- the map counts the numbers of the list. -/
structure CntD (D : DataW Unit) (l : List Int) : Prop where
 map : IsMap D
 key : ∀ kl, has D kl = true ↔ ∃ x ∈ l, kl = .int .i64 x
 cnt : ∀ x ∈ l, ∀ z, D.atKey (.int .i64 x) z = .lit (.int .i64 (l.count x))
open Go.Maps in
theorem CntD.step {D : DataW Unit} {l : List Int} (h : CntD D l) {x : Int} (hk : WideAt.IsKeyLit (.int .i64 x)) : CntD (D.put (.int .i64 x) (.lit (.int .i64 ((l.count x : Int) + 1)))) (l ++ [x]) := by
 refine ⟨h.map.put _ _, fun kl => ?_, fun y hy z => ?_⟩
 ·by_cases e : kl = .int .i64 x
  ·subst e
   rw [has_put_same h.map hk]
   simp
  ·rw [has_put_other e, h.key]
   constructor
   ·rintro ⟨y, hy, rfl⟩; exact ⟨y, by simp [hy], rfl⟩
   ·rintro ⟨y, hy, rfl⟩
    rcases List.mem_append.1 hy with hy | hy
    ·exact ⟨y, hy, rfl⟩
    ·simp only [List.mem_singleton] at hy
     subst hy; exact absurd rfl e
 ·by_cases e : y = x
  ·subst e
   rw [atKey_put_same h.map hk]
   simp
  ·have hy2 : y ∈ l := by
    rcases List.mem_append.1 hy with hy | hy
    ·exact hy
    ·simp only [List.mem_singleton] at hy; exact absurd hy e
   rw [atKey_put_other (fun e2 => e (by cases e2; rfl)), h.cnt y hy2]
   have : ([x] : List Int).count y = 0 := List.count_eq_zero.2 (by simpa using e)
   rw [List.count_append, this, Nat.add_zero]
open Go.Maps in
theorem CntD.same {D E : DataW Unit} {l m : List Int} (h : CntD D l) (k : CntD E m) (cD : Canon D) (cE : Canon E) (hc : ∀ x, m.count x = l.count x) : D = E := by
 have hm : ∀ x, x ∈ l ↔ x ∈ m := fun x => by rw [← List.count_pos_iff, ← List.count_pos_iff, hc]
 have hh : ∀ kl, has D kl = has E kl := fun kl => by
  rw [Bool.eq_iff_iff, h.key, k.key]
  constructor
  ·rintro ⟨x, a, b⟩; exact ⟨x, (hm x).1 a, b⟩
  ·rintro ⟨x, a, b⟩; exact ⟨x, (hm x).2 a, b⟩
 refine ext cD cE hh (fun kl z hk => ?_)
 obtain ⟨x, hx, rfl⟩ := (h.key kl).1 hk
 rw [h.cnt x hx, k.cnt x ((hm x).1 hx), hc]
end Go.Proofs.YtdeoogbiipodmaaGreat

namespace Go.Proofs.YtdeoogbiipodmaaGreat
open Go.RowKit Go.Maps
set_option maxRecDepth 100000

def CntM (w : World) (b n : Nat) (l : List Int) : Prop := ∃ D : DataW Unit, w.ownsMap Tryz.prog 3 (plainElem Tryz.prog 3) b n D ∧ CntD D l
theorem CntM.kept {w w' : World} {b n : Nat} {l : List Int} {row : Option Nat} (h : CntM w b n l) (hg : w.grownBy w' row) (hne : some b ≠ row) : CntM w' b n l := by
 obtain ⟨D, h1, h2⟩ := h; exact ⟨D, h1.kept hg hne, h2⟩
theorem CntM.lt {w : World} {b n : Nat} {l : List Int} (h : CntM w b n l) : b < w.heap.size := by obtain ⟨D, h1, _⟩ := h; exact h1.lt
def pCnt (k n : Nat) (l : List Int) : Pc where
 P w b := b = some k ∧ CntM w k n l
 lt w j h := by obtain ⟨h1, h2⟩ := h; cases h1; exact h2.lt
 loc w w' row b h hg hne := ⟨h.1, h.2.kept hg (fun e => hne k h.1 e.symm)⟩
theorem SL.cnt {B : Nat} {w0 w : World} {L : List Pc} {k n : Nat} {l : List Int} (h : SL B w0 w L) (i : Nat) (hi : L[i]? = some (pCnt k n l)) : CntM w k n l := by
 obtain ⟨b, ⟨_, h1⟩, _⟩ := h.upd i hi
 exact h1
section
variable {ops : Array Oper} {rest : List Oper} {a : Act} {Q : Exit → Act → World → Prop} {d : Option Tmp} {ty : TypeId} {p : String} {m x y : Operand} {af : Array Edge} {g : Option (Nat × Bool)} {b n B : Nat} {k : Int} {w0 w : World} {L : List Pc} {l : List Int}
end
section
variable {P : Program} {ops : Array Oper} {rest : List Oper} {a : Act} {α : Type} {c : α → Value} {sz bytes : Nat} {t e t2 e2 : TypeId} {z : Value} {ad : Option Addr} {cap n : Nat} {l : List α} {k : Int} {w : World}
 {d1 d2 d3 : Tmp} {ty1 ty2 ty3 : TypeId} {p1 p2 p3 : String} {s x : Operand} {af1 af2 af3 : Array Edge} {j : Nat} {g1 g2 g3 : Option (Nat × Bool)}
end
section
variable {P : Program} {ops : Array Oper} {a : Act} {ty : TypeId} {p : String} {af : Array Edge} {g : Option (Nat × Bool)} {d : Tmp} {C : World → Prop}
theorem yieldsK_cellC {e : TypeId} {s : Operand} {x : Addr} {v : Value} (hF : Flat P e) (hb : ∀ w, C w → w.cell? x = some v) (hg : Region.wanted (⟨some d, .load e s, ty, p, af, g⟩ : Oper) (yielded ops a.tmps) = true) (hs : a.eval s = .pointer (some x)) :
  YieldsK P ops C ⟨some d, .load e s, ty, p, af, g⟩ v a :=
 .inl ⟨hg, fun w' hw' => by simp [execOp, hs, run_loadAt_cell w' hF (hb w' hw'), Result.andThen]⟩
end
end Go.Proofs.YtdeoogbiipodmaaGreat

namespace Go.Proofs.YtdeoogbiipodmaaGreat
open Go.RowKit
set_option maxHeartbeats 1000000
set_option maxRecDepth 100000
section
variable {P : Program} {ops : Array Oper} {rest : List Oper} {a : Act} {Qa : Act → Prop} {α : Type} {c : α → Value} {sz bytes : Nat} {t e : TypeId} {z : Value} {ad : Option Addr} {cap : Nat} {l : List α} {k : Int} {w : World}
 {d1 d2 : Tmp} {ty1 ty2 : TypeId} {p1 p2 : String} {s x : Operand} {af1 af2 : Array Edge}
theorem wpB_idx2 (d : α) (E : ETy P t e z sz bytes) (hF : Flat P e) (hc : ∀ x, (c x).cells = #[c x])
   {n : Nat} (hs : a.eval s = .slice ad n cap) (hn : l.length = n) (hx : a.eval x = .int .i64 k) (hR : Reps c sz w ad cap l) (h0 : 0 ≤ k) (hlt : k < l.length) (hd : ∀ p, (a.put (some d1) p).eval (.tmp d1) = p)
   (hK : ∀ p, wpQuiet P ops (Below w.heap.size w) Qa rest ((a.put (some d1) p).put (some d2) (c (atD d l k)))) :
   wpQuiet P ops (Below w.heap.size w) Qa (⟨some d1, .indexAddr t s x, ty1, p1, af1, none⟩ :: ⟨some d2, .load e (.tmp d1), ty2, p2, af2, none⟩ :: rest) a := by
 subst hn
 have hkl : k.toNat < l.length := by omega
 obtain ⟨b, o, rfl, hcs⟩ := hR.cells E.pos d k.toNat hkl
 have hcell := hcs 0 (c (atD d l k)) (by rw [show l.getD k.toNat d = atD d l k from rfl, hc]; rfl)
 refine wpQ_in (.pointer (some ((⟨b, o, none⟩ : Addr).add (k.toNat * sz)))) rfl (fun w' hw' => ?_) (wpQ_in (c (atD d l k)) rfl (fun w' hw' => ?_) (hK _))
 ·have h1 := run_indexAt_sl (P := P) (a := ⟨b, o, none⟩) (cap := cap) w' E h0 hlt
  simp [execOp, hs, hx, h1, Result.andThen]
 ·have h2 := run_loadAt_cell (P := P) w' (a := (⟨b, o, none⟩ : Addr).add (k.toNat * sz)) (v := c (atD d l k)) hF (by
   rw [Addr.add_z]
   exact (hw'.cell (World.block_lt_of_cell? w _ hcell)).trans hcell)
  simp [execOp, hd, h2, Result.andThen]
end
/-- the handles H lead to the lists l. -/
def LeadsTo (w : World) (H : List SlH) (l : List (List Int)) : Prop := ∀ k : Nat, k < l.length → ∃ xa xc, atD ((none, 0, 0) : SlH) H k = (xa, (atD [] l k).length, xc) ∧ Ints w xa xc (atD [] l k) ∧ (atD [] l k).length ≤ 1048576
theorem LeadsTo.below {w w' : World} {H : List SlH} {l : List (List Int)} (h : LeadsTo w H l) (hb : Below w.heap.size w w') : LeadsTo w' H l := fun k hk => by
 obtain ⟨xa, xc, h1, h2, h3⟩ := h k hk
 exact ⟨xa, xc, h1, h2.below hb, h3⟩
end Go.Proofs.YtdeoogbiipodmaaGreat

namespace Go.Proofs.YtdeoogbiipodmaaGreat
/-- what the moves of letters between simple braids need. -/
structure Gar (S : Type) where
 N : Nat
 V : S → Prop
 B : S → Nat → Bool
 E : S → Nat → Bool
 fr : S → Nat → S
 bk : S → Nat → S
 ht : S → Nat
 K : Nat
 vfr : ∀ {b i}, V b → i < N → V (fr b i)
 vbk : ∀ {b i}, V b → i < N → V (bk b i)
 hK : ∀ {b}, V b → ht b < K
 lbk : ∀ {b i}, V b → i < N → E b i = false → ht (bk b i) < ht b
 farF : ∀ {b i j}, V b → i < N → j < N → i + 1 < j → B (fr b i) j = B b j ∧ B (fr b j) i = B b i ∧ fr (fr b i) j = fr (fr b j) i
 farB : ∀ {b i j}, V b → i < N → j < N → i + 1 < j → E (bk b i) j = E b j ∧ E (bk b j) i = E b i ∧ bk (bk b i) j = bk (bk b j) i
 nearF : ∀ {b i}, V b → i + 1 < N → B b i = true → B b (i + 1) = true → (B (fr b i) (i + 1) = true ∧ B (fr (fr b i) (i + 1)) i = true) ∧ (B (fr b (i + 1)) i = true ∧ B (fr (fr b (i + 1)) i) (i + 1) = true) ∧ fr (fr (fr b i) (i + 1)) i = fr (fr (fr b (i + 1)) i) (i + 1)
 nearB : ∀ {b i}, V b → i + 1 < N → E b i = false → E b (i + 1) = false → (E (bk b i) (i + 1) = false ∧ E (bk (bk b i) (i + 1)) i = false) ∧ (E (bk b (i + 1)) i = false ∧ E (bk (bk b (i + 1)) i) (i + 1) = false) ∧ bk (bk (bk b i) (i + 1)) i = bk (bk (bk b (i + 1)) i) (i + 1)
 mid : ∀ {b i j}, V b → i < N → j < N → B b i = true → E b j = false → E (fr b i) j = false ∧ B (bk b j) i = true ∧ fr (bk b j) i = bk (fr b i) j
section
variable {S : Type} (G : Gar S)
inductive Pull : List S → List S → Prop
 | here (a b : S) (X : List S) (i : Nat) : i < G.N → G.B b i = true → G.E a i = false → Pull (a :: b :: X) (G.bk a i :: G.fr b i :: X)
 | there (a : S) {X Y : List S} : Pull X Y → Pull (a :: X) (a :: Y)
inductive Star : List S → List S → Prop
 | refl (X : List S) : Star X X
 | step {X Y Z : List S} : Pull G X Y → Star Y Z → Star X Z
def Vs (X : List S) : Prop := ∀ x ∈ X, G.V x
def NoPull (X : List S) : Prop := ∀ Y, ¬ Pull G X Y
variable {G}
theorem Star.trans {X Y Z : List S} (h : Star G X Y) (k : Star G Y Z) : Star G X Z := by
 induction h with
 | refl => exact k
 | step p _ ih => exact .step p (ih k)
theorem Star.one {X Y : List S} (h : Pull G X Y) : Star G X Y := .step h (.refl _)
theorem Star.there (a : S) {X Y : List S} (h : Star G X Y) : Star G (a :: X) (a :: Y) := by
 induction h with
 | refl => exact .refl _
 | step p _ ih => exact .step (.there a p) ih
theorem Pull.vs {X Y : List S} (h : Pull G X Y) (hv : Vs G X) : Vs G Y := by
 induction h with
 | here a b X i h1 h2 h3 =>
  intro x hx
  rcases List.mem_cons.1 hx with rfl | hx
  ·exact G.vbk (hv a (by simp)) h1
  ·rcases List.mem_cons.1 hx with rfl | hx
   ·exact G.vfr (hv b (by simp)) h1
   ·exact hv x (by simp [hx])
 | there a p ih =>
  intro x hx
  rcases List.mem_cons.1 hx with rfl | hx
  ·exact hv x (by simp)
  ·exact ih (fun y hy => hv y (by simp [hy])) x hx
theorem Star.vs {X Y : List S} (h : Star G X Y) (hv : Vs G X) : Vs G Y := by
 induction h with
 | refl => exact hv
 | step p _ ih => exact ih (p.vs hv)
theorem Pull.length {X Y : List S} (h : Pull G X Y) : Y.length = X.length := by
 induction h with
 | here => rfl
 | there a _ ih => simp [ih]
theorem Star.length {X Y : List S} (h : Star G X Y) : Y.length = X.length := by
 induction h with
 | refl => rfl
 | step p _ ih => rw [ih, p.length]
/-- two moves lead to one list again. -/
theorem pull_join {X Y Z : List S} (h : Pull G X Y) (hv : Vs G X) (k : Pull G X Z) : ∃ W, Star G Y W ∧ Star G Z W := by
 induction h generalizing Z with
 | here a b X i h1 h2 h3 =>
  have va := hv a (by simp)
  have vb := hv b (by simp)
  cases k with
  | here _ _ _ j k1 k2 k3 =>
   rcases Nat.lt_trichotomy i j with hij | rfl | hij
   ·by_cases hf : i + 1 < j
    ·obtain ⟨f1, f2, f3⟩ := G.farF vb h1 k1 hf
     obtain ⟨g1, g2, g3⟩ := G.farB va h1 k1 hf
     refine ⟨G.bk (G.bk a i) j :: G.fr (G.fr b i) j :: X, .one (.here _ _ _ j k1 (by rw [f1]; exact k2) (by rw [g1]; exact k3)), ?_⟩
     rw [f3, g3]
     exact .one (.here _ _ _ i h1 (by rw [f2]; exact h2) (by rw [g2]; exact h3))
    ·have e : j = i + 1 := by omega
     subst e
     obtain ⟨⟨f1, f2⟩, ⟨f3, f4⟩, f5⟩ := G.nearF vb k1 h2 k2
     obtain ⟨⟨g1, g2⟩, ⟨g3, g4⟩, g5⟩ := G.nearB va k1 h3 k3
     refine ⟨G.bk (G.bk (G.bk a i) (i + 1)) i :: G.fr (G.fr (G.fr b i) (i + 1)) i :: X, .step (.here _ _ _ (i + 1) k1 f1 g1) (.one (.here _ _ _ i h1 f2 g2)), ?_⟩
     rw [f5, g5]
     exact .step (.here _ _ _ i h1 f3 g3) (.one (.here _ _ _ (i + 1) k1 f4 g4))
   ·exact ⟨_, .refl _, .refl _⟩
   ·by_cases hf : j + 1 < i
    ·obtain ⟨f1, f2, f3⟩ := G.farF vb k1 h1 hf
     obtain ⟨g1, g2, g3⟩ := G.farB va k1 h1 hf
     refine ⟨G.bk (G.bk a i) j :: G.fr (G.fr b i) j :: X, .one (.here _ _ _ j k1 (by rw [f2]; exact k2) (by rw [g2]; exact k3)), ?_⟩
     rw [← f3, ← g3]
     exact .one (.here _ _ _ i h1 (by rw [f1]; exact h2) (by rw [g1]; exact h3))
    ·have e : i = j + 1 := by omega
     subst e
     obtain ⟨⟨f1, f2⟩, ⟨f3, f4⟩, f5⟩ := G.nearF vb h1 k2 h2
     obtain ⟨⟨g1, g2⟩, ⟨g3, g4⟩, g5⟩ := G.nearB va h1 k3 h3
     refine ⟨G.bk (G.bk (G.bk a j) (j + 1)) j :: G.fr (G.fr (G.fr b j) (j + 1)) j :: X, ?_, .step (.here _ _ _ (j + 1) h1 f1 g1) (.one (.here _ _ _ j k1 f2 g2))⟩
     rw [f5, g5]
     exact .step (.here _ _ _ j k1 f3 g3) (.one (.here _ _ _ (j + 1) h1 f4 g4))
  | there _ k =>
   cases k with
   | here _ c R j k1 k2 k3 =>
    obtain ⟨m1, m2, m3⟩ := G.mid vb h1 k1 h2 k3
    refine ⟨G.bk a i :: G.bk (G.fr b i) j :: G.fr c j :: R, .one (.there _ (.here _ _ _ j k1 k2 m1)), ?_⟩
    rw [← m3]
    exact .one (.here _ _ _ i h1 m2 h3)
   | there _ k => exact ⟨_, .one (.there _ (.there _ k)), .one (.here _ _ _ i h1 h2 h3)⟩
 | there a p ih =>
  have hv2 : Vs G _ := fun x hx => hv x (List.mem_cons_of_mem a hx)
  cases k with
  | here _ b R i k1 k2 k3 =>
   have va := hv a (by simp)
   cases p with
   | here _ c Q j h1 h2 h3 =>
    have vb := hv b (by simp)
    obtain ⟨m1, m2, m3⟩ := G.mid vb k1 h1 k2 h3
    refine ⟨G.bk a i :: G.bk (G.fr b i) j :: G.fr c j :: Q, ?_, .one (.there _ (.here _ _ _ j h1 h2 m1))⟩
    rw [← m3]
    exact .one (.here _ _ _ i k1 m2 k3)
   | there _ p => exact ⟨_, .one (.here _ _ _ i k1 k2 k3), .one (.there _ (.there _ p))⟩
  | there _ k =>
   obtain ⟨W, h1, h2⟩ := ih hv2 k
   exact ⟨a :: W, h1.there a, h2.there a⟩
def muG (G : Gar S) : List S → Nat
 | [] => 0
 | a :: X => G.ht a * G.K ^ X.length + muG G X
theorem mu_lt : ∀ {X : List S}, Vs G X → muG G X < G.K ^ X.length
 | [], _ => by simp [muG]
 | a :: X, h => by
   have h1 := G.hK (h a (by simp))
   have h2 : muG G X < G.K ^ X.length := mu_lt fun x hx => h x (List.mem_cons_of_mem a hx)
   have h3 : (G.ht a + 1) * G.K ^ X.length ≤ G.K * G.K ^ X.length := Nat.mul_le_mul_right _ h1
   rw [Nat.add_mul, Nat.one_mul] at h3
   simp only [muG, List.length_cons, Nat.pow_succ]
   rw [Nat.mul_comm (G.K ^ X.length)]
   omega
theorem Pull.mu {X Y : List S} (h : Pull G X Y) (hv : Vs G X) : muG G Y < muG G X := by
 induction h with
 | here a b X i h1 h2 h3 =>
  have hy := (Pull.here a b X i h1 h2 h3).vs hv
  have hb : Vs G (G.fr b i :: X) := fun x hx => hy x (List.mem_cons_of_mem _ hx)
  have h4 := mu_lt hb
  have h5 := G.lbk (hv a (by simp)) h1 h3
  have h6 : (G.ht (G.bk a i) + 1) * G.K ^ (X.length + 1) ≤ G.ht a * G.K ^ (X.length + 1) := Nat.mul_le_mul_right _ h5
  rw [Nat.add_mul, Nat.one_mul] at h6
  simp only [muG, List.length_cons] at h4 ⊢
  omega
 | there a p ih =>
  have h1 := ih fun x hx => hv x (List.mem_cons_of_mem a hx)
  simp only [muG]
  rw [p.length]
  omega
theorem norm_ex (X : List S) (hv : Vs G X) : ∃ Y, Star G X Y ∧ NoPull G Y := by
 generalize hm : muG G X = m
 induction m using Nat.strongRecOn generalizing X with
 | _ m ih =>
  by_cases h : ∃ Y, Pull G X Y
  ·obtain ⟨Y, h⟩ := h
   obtain ⟨Z, h1, h2⟩ := ih (muG G Y) (by have := h.mu hv; omega) Y (h.vs hv) rfl
   exact ⟨Z, .step h h1, h2⟩
  ·exact ⟨X, .refl _, fun Y k => h ⟨Y, k⟩⟩
/-- the end is the same, whatever the moves. -/
theorem norm_one {X Y Z : List S} (hv : Vs G X) (h : Star G X Y) (hY : NoPull G Y) (k : Star G X Z) (hZ : NoPull G Z) : Y = Z := by
 generalize hm : muG G X = m
 induction m using Nat.strongRecOn generalizing X Y Z with
 | _ m ih =>
  cases h with
  | refl =>
   cases k with
   | refl => rfl
   | step p _ => exact absurd p (hY _)
  | step p h =>
   cases k with
   | refl => exact absurd p (hZ _)
   | step q k =>
    have vp := p.vs hv
    have vq := q.vs hv
    have mp := p.mu hv
    have mq := q.mu hv
    obtain ⟨W, w1, w2⟩ := pull_join p hv q
    obtain ⟨W', w3, w4⟩ := norm_ex W (w1.vs vp)
    have ep := ih (muG G _) (by omega) vp h hY (w1.trans w3) w4 rfl
    have eq := ih (muG G _) (by omega) vq k hZ (w2.trans w3) w4 rfl
    exact ep.trans eq.symm
end
end Go.Proofs.YtdeoogbiipodmaaGreat

namespace Go.Proofs.YtdeoogbiipodmaaGreat
/-- .. with no crossing, the half twist, complements, and the braid from the right. -/
structure GarT (S : Type) extends Gar S where
 e : S
 D : S
 fl : S → S
 co : S → S
 ve : V e
 vD : V D
 vfl : ∀ {a}, V a → V (fl a)
 vco : ∀ {a}, V a → V (co a)
 Be : ∀ {i}, i < N → B e i = false
 ED : ∀ {i}, i < N → E D i = true
 isE : ∀ {b}, V b → (∀ i, i < N → E b i = false) → b = e
 isD : ∀ {b}, V b → (∀ i, i < N → E b i = true) → b = D
 Ebk : ∀ {b i}, V b → i < N → E (bk b i) i = !E b i
 bkbk : ∀ {b i}, V b → i < N → bk (bk b i) i = b
 letB : ∀ {i}, i < N → B (fr e i) i = true
 letF : ∀ {i}, i < N → fr (fr e i) i = e
 letK : ∀ {i}, i < N → bk e i = fr e i
 flB : ∀ {a i}, V a → i < N → B (fl a) (N - 1 - i) = B a i
 flE : ∀ {a i}, V a → i < N → E (fl a) (N - 1 - i) = E a i
 flfr : ∀ {a i}, V a → i < N → fl (fr a i) = fr (fl a) (N - 1 - i)
 flbk : ∀ {a i}, V a → i < N → fl (bk a i) = bk (fl a) (N - 1 - i)
 flfl : ∀ {a}, V a → fl (fl a) = a
 fle : fl e = e
 flD : fl D = D
 coB : ∀ {a i}, V a → i < N → B (co a) i = !E a i
 cofr : ∀ {a i}, V a → i < N → fr (co a) i = co (bk a i)
 coD : co D = e
 coe : co e = D
 coco : ∀ {a}, V a → co (co a) = fl a
 frD : ∀ {i}, i < N → fr D (N - 1 - i) = bk D i
section
variable {S : Type} {T : GarT S}
theorem vs_cons {a : S} {X : List S} (h : T.V a) (k : Vs T.toGar X) : Vs T.toGar (a :: X) := fun x hx => by rcases List.mem_cons.1 hx with rfl | hx; exact h; exact k x hx
theorem vs_app {X Y : List S} (h : Vs T.toGar X) (k : Vs T.toGar Y) : Vs T.toGar (X ++ Y) := fun x hx => by rcases List.mem_append.1 hx with hx | hx; exact h x hx; exact k x hx
theorem vs_nil : Vs T.toGar [] := fun x hx => absurd hx (by simp)
theorem vs_map {X : List S} (h : Vs T.toGar X) : Vs T.toGar (X.map T.fl) := fun x hx => by obtain ⟨y, hy, rfl⟩ := List.mem_map.1 hx; exact T.vfl (h y hy)
theorem Pull.map {X Y : List S} (h : Pull T.toGar X Y) (hv : Vs T.toGar X) : Pull T.toGar (X.map T.fl) (Y.map T.fl) := by
 induction h with
 | here a b X i h1 h2 h3 =>
  have va := hv a (by simp)
  have vb := hv b (by simp)
  rw [List.map_cons, List.map_cons, List.map_cons, List.map_cons, T.flbk va h1, T.flfr vb h1]
  exact .here _ _ _ (T.N - 1 - i) (by omega) (by rw [T.flB vb h1]; exact h2) (by rw [T.flE va h1]; exact h3)
 | there a p ih => exact .there _ (ih fun x hx => hv x (by simp [hx]))
theorem Star.map {X Y : List S} (h : Star T.toGar X Y) (hv : Vs T.toGar X) : Star T.toGar (X.map T.fl) (Y.map T.fl) := by
 induction h with
 | refl => exact .refl _
 | step p _ ih => exact .step (p.map hv) (ih (p.vs hv))
def ltrI (x : Int) : Nat := (if 0 < x then x else -x).toNat - 1
def LetOk (N : Nat) (x : Int) : Prop := x ≠ 0 ∧ (if 0 < x then x else -x) ≤ N
def facG (T : GarT S) (L : List S) (x : Int) : List S := if 0 < x then L ++ [T.fr T.e (ltrI x)] else L.map T.fl ++ [T.bk T.D (ltrI x)]
def facL (T : GarT S) (L : List S) (w : List Int) : List S := w.foldl (facG T) L
theorem ltrI_lt {N : Nat} {x : Int} (h : LetOk N x) : ltrI x < N := by
 obtain ⟨h1, h2⟩ := h
 unfold ltrI
 split at h2 <;> simp_all <;> omega
theorem fac_vs {L : List S} {x : Int} (h : Vs T.toGar L) (hx : LetOk T.N x) : Vs T.toGar (facG T L x) := by
 have hi := ltrI_lt hx
 unfold facG
 split
 ·exact vs_app h (vs_cons (T.vfr T.ve hi) vs_nil)
 ·exact vs_app (vs_map h) (vs_cons (T.vbk T.vD hi) vs_nil)
theorem facL_vs {w : List Int} (hw : ∀ x ∈ w, LetOk T.N x) : ∀ {L : List S}, Vs T.toGar L → Vs T.toGar (facL T L w) := by
 induction w with
 | nil => intro L h; exact h
 | cons x w ih => intro L h; exact ih (fun y hy => hw y (by simp [hy])) (fac_vs h (hw x (by simp)))
theorem facL_app (L : List S) (u v : List Int) : facL T L (u ++ v) = facL T (facL T L u) v := by unfold facL; rw [List.foldl_append]
/-- Y is where the list of a word comes to. -/
def NfW (T : GarT S) (w : List Int) (Y : List S) : Prop := Star T.toGar (facL T [] w) Y ∧ NoPull T.toGar Y
end
end Go.Proofs.YtdeoogbiipodmaaGreat

namespace Go.Proofs.YtdeoogbiipodmaaGreat
set_option maxRecDepth 100000

/-- a machine. -/
structure MacV where
 ring : Bool
 gears : Int
 turn : Int
 sw : List Int
def sharedM (m : MacV) (p : Int) : Bool := (decide (0 ≤ p) && decide (p < m.gears)) && (m.ring || decide (0 < p))
def swGo (m : MacV) : Option Int → List Int → Int
 | _, [] => 0
 | o, s :: r => if sharedM m s = false then 10 else match o with
   | none => swGo m (some s) r
   | some b => if s ≤ b then 11 else swGo m (some s) r
/-- the error of a machine. -/
def macE (m : MacV) : Int :=
 if m.gears < 1 ∨ 16 < m.gears then 3 else if m.ring = true ∧ m.gears % 2 = 1 then 17 else if m.turn ≠ 1 ∧ m.turn ≠ -1 then 3 else if m.gears < m.sw.length then 5 else swGo m none m.sw
structure MacOk (m : MacV) : Prop where
 lo : 1 ≤ m.gears
 hi : m.gears ≤ 16
 even : m.ring = true → m.gears % 2 = 0
 turn : m.turn = 1 ∨ m.turn = -1
 many : m.sw.length ≤ m.gears
theorem macE_zero {m : MacV} (h : macE m = 0) : MacOk m ∧ swGo m none m.sw = 0 := by
 unfold macE at h
 split at h
 ·omega
 ·rename_i h1
  split at h
  ·omega
  ·rename_i h2
   split at h
   ·omega
   ·rename_i h3
    split at h
    ·omega
    ·rename_i h4
     refine ⟨⟨by omega, by omega, fun e => ?_, by omega, by omega⟩, h⟩
     have : ¬ m.gears % 2 = 1 := fun e2 => h2 ⟨e, e2⟩
     omega
def fwdM (m : MacV) (g : Int) : Bool := (m.turn == 1) == (g % 2 == 0)
/-- the place of a slot, or -1. -/
def placeM (m : MacV) (s : Int) : Int :=
 if s % 4 = 0 then s / 4 else if s % 4 = 2 then (if m.ring = true ∧ s / 4 + 1 = m.gears then 0 else s / 4 + 1) else -1
/-- the gear before a place. -/
def befM (m : MacV) (p : Int) : Int := if p = 0 then m.gears - 1 else p - 1
def goesM (m : MacV) (s : Int) : Bool := decide (0 ≤ placeM m s) && sharedM m (placeM m s) && !m.sw.contains (placeM m s)
def overM (m : MacV) (s : Int) : Int := if goesM m s then 4 * befM m (placeM m s) + 2 + 4 * placeM m s - s else s
def rotM (m : MacV) (s : Int) : Int := 4 * (s / 4) + (s % 4 + (if fwdM m (s / 4) then 1 else 3)) % 4
def nextM (m : MacV) (s : Int) : Int := overM m (rotM m s)

theorem place_prog {m : MacV} {s : Int} (h0 : 0 ≤ s) (h1 : s < 4 * m.gears) : (s / 4 + 1) % (m.gears + (if m.ring then 0 else 1)) = if m.ring = true ∧ s / 4 + 1 = m.gears then 0 else s / 4 + 1 := by
 cases hr : m.ring
 ·simp only [Bool.false_eq_true, if_false, false_and]
  exact Int.emod_eq_of_lt (by omega) (by omega)
 ·simp only [if_true, true_and, Int.add_zero]
  split
  ·rename_i h; rw [h]; exact Int.emod_self
  ·exact Int.emod_eq_of_lt (by omega) (by omega)
theorem bef_prog {m : MacV} {p : Int} (h0 : 0 ≤ p) (h1 : p < m.gears) : (p + m.gears - 1) % m.gears = befM m p := by
 unfold befM
 split
 ·rename_i h; subst h; rw [Int.zero_add]; exact Int.emod_eq_of_lt (by omega) (by omega)
 ·rw [show p + m.gears - 1 = (p - 1) + m.gears by omega, Int.add_emod_right]
  exact Int.emod_eq_of_lt (by omega) (by omega)
theorem shared_iff {m : MacV} {p : Int} : sharedM m p = true ↔ 0 ≤ p ∧ p < m.gears ∧ (m.ring = true ∨ 0 < p) := by
 unfold sharedM
 simp only [Bool.and_eq_true, Bool.or_eq_true, decide_eq_true_eq]
 exact and_assoc
/-- the two slots of a shared place. -/
theorem over_cases {m : MacV} {s : Int} (h0 : 0 ≤ s) (h1 : s < 4 * m.gears) : (goesM m s = false ∧ overM m s = s) ∨
  (goesM m s = true ∧ 0 ≤ overM m s ∧ overM m s < 4 * m.gears ∧ placeM m (overM m s) = placeM m s ∧ overM m s ≠ s ∧ overM m s = 4 * befM m (placeM m s) + 2 + 4 * placeM m s - s) := by
 cases hg : goesM m s
 ·exact .inl ⟨rfl, by unfold overM; rw [hg]; rfl⟩
 ·right
  have e : overM m s = 4 * befM m (placeM m s) + 2 + 4 * placeM m s - s := by unfold overM; rw [if_pos hg]
  unfold goesM at hg
  simp only [Bool.and_eq_true, decide_eq_true_eq] at hg
  obtain ⟨⟨hp0, hsh⟩, _⟩ := hg
  obtain ⟨_, hp1, hp2⟩ := shared_iff.1 hsh
  refine ⟨rfl, ?_⟩
  obtain ⟨p, hp⟩ : ∃ p, p = placeM m s := ⟨_, rfl⟩
  rw [← hp] at e hp0 hp1 hp2 ⊢
  rw [e]
  unfold placeM at hp ⊢
  unfold befM
  cases hr : m.ring
  ·simp only [hr, Bool.false_eq_true, false_and, if_false, false_or] at hp hp2 ⊢
   rw [if_neg (by omega)]
   split at hp
   ·subst hp
    refine ⟨by omega, by omega, ?_, by omega, trivial⟩
    rw [if_neg (by omega), if_pos (by omega)]; omega
   ·split at hp
    ·subst hp
     refine ⟨by omega, by omega, ?_, by omega, trivial⟩
     rw [if_pos (by omega)]; omega
    ·omega
  ·simp only [hr, true_and, true_or] at hp hp2 ⊢
   split at hp
   ·by_cases hz : p = 0
    ·rw [if_pos hz]
     refine ⟨by omega, by omega, ?_, by omega, trivial⟩
     rw [if_neg (by omega), if_pos (by omega), if_pos (by omega)]; omega
    ·rw [if_neg hz]
     refine ⟨by omega, by omega, ?_, by omega, trivial⟩
     rw [if_neg (by omega), if_pos (by omega), if_neg (by omega)]; omega
   ·split at hp
    ·split at hp
     ·subst hp
      rw [if_pos rfl]
      refine ⟨by omega, by omega, ?_, by omega, trivial⟩
      rw [if_pos (by omega)]; omega
     ·rw [if_neg (by omega)]
      refine ⟨by omega, by omega, ?_, by omega, trivial⟩
      rw [if_pos (by omega)]; omega
    ·omega
theorem over_rng {m : MacV} {s : Int} (h0 : 0 ≤ s) (h1 : s < 4 * m.gears) : 0 ≤ overM m s ∧ overM m s < 4 * m.gears := by
 rcases over_cases h0 h1 with ⟨_, e⟩ | ⟨_, a, b, _⟩
 ·rw [e]; exact ⟨h0, h1⟩
 ·exact ⟨a, b⟩
theorem over_over {m : MacV} {s : Int} (h0 : 0 ≤ s) (h1 : s < 4 * m.gears) : overM m (overM m s) = s := by
 rcases over_cases h0 h1 with ⟨_, e⟩ | ⟨hg, a, b, hp, _, e⟩
 ·rw [e, e]
 ·have hg2 : goesM m (overM m s) = true := by unfold goesM at hg ⊢; rw [hp]; exact hg
  rcases over_cases a b with ⟨hg3, _⟩ | ⟨_, _, _, _, _, e2⟩
  ·rw [hg2] at hg3; cases hg3
  ·rw [e2, hp, e]; omega
theorem rot_rng {m : MacV} {s : Int} (h0 : 0 ≤ s) (h1 : s < 4 * m.gears) : 0 ≤ rotM m s ∧ rotM m s < 4 * m.gears ∧ rotM m s / 4 = s / 4 ∧ rotM m s % 4 = (s % 4 + (if fwdM m (s / 4) then 1 else 3)) % 4 := by
 unfold rotM
 split <;> omega
theorem rot_inj {m : MacV} {s t : Int} (h0 : 0 ≤ s) (h1 : s < 4 * m.gears) (k0 : 0 ≤ t) (k1 : t < 4 * m.gears) (e : rotM m s = rotM m t) : s = t := by
 obtain ⟨_, _, a, b⟩ := rot_rng h0 h1
 obtain ⟨_, _, c, d⟩ := rot_rng k0 k1
 rw [e] at a b
 have hq : s / 4 = t / 4 := by omega
 rw [hq] at b
 split at b
 ·rename_i hf; rw [if_pos hf] at d; omega
 ·rename_i hf; rw [if_neg hf] at d; omega
theorem next_rng {m : MacV} {s : Int} (h0 : 0 ≤ s) (h1 : s < 4 * m.gears) : 0 ≤ nextM m s ∧ nextM m s < 4 * m.gears := by
 obtain ⟨a, b, _⟩ := rot_rng h0 h1
 exact over_rng a b
theorem next_inj {m : MacV} {s t : Int} (h0 : 0 ≤ s) (h1 : s < 4 * m.gears) (k0 : 0 ≤ t) (k1 : t < 4 * m.gears) (e : nextM m s = nextM m t) : s = t := by
 obtain ⟨a, b, _⟩ := rot_rng h0 h1
 obtain ⟨c, d, _⟩ := rot_rng k0 k1
 have := congrArg (overM m) e
 unfold nextM at this
 rw [over_over a b, over_over c d] at this
 exact rot_inj h0 h1 k0 k1 this
/-- the permutation of a step. -/
def permM (m : MacV) : List Int := (List.range (4 * m.gears).toNat).map fun (i : Nat) => nextM m i
theorem permM_len (m : MacV) : (permM m).length = (4 * m.gears).toNat := by simp [permM]
theorem permM_at {m : MacV} {s : Int} (h0 : 0 ≤ s) (h1 : s < 4 * m.gears) : atD 0 (permM m) s = nextM m s := by
 unfold permM atD
 have hs : s.toNat < (4 * m.gears).toNat := by omega
 rw [List.getD_eq_getElem?_getD, List.getElem?_map, List.getElem?_range hs]
 simp [Int.toNat_of_nonneg h0]
theorem permM_isP (m : MacV) : IsP (permM m) := by
 refine ⟨fun x h0 h1 => ?_, fun x y x0 x1 y0 y1 e => ?_⟩
 ·rw [permM_len] at h1
  rw [permM_at h0 (by omega), permM_len]
  have := next_rng (m := m) h0 (by omega)
  omega
 ·rw [permM_len] at x1 y1
  rw [permM_at x0 (by omega), permM_at y0 (by omega)] at e
  exact next_inj x0 (by omega) y0 (by omega) e
end Go.Proofs.YtdeoogbiipodmaaGreat

namespace Go.Proofs.YtdeoogbiipodmaaGreat
set_option maxRecDepth 100000

/-- where a carrier is after some steps. -/
def itM (m : MacV) (s : Int) (n : Nat) : Int := itP (permM m) s n
theorem itM_rng {m : MacV} {s : Int} (h0 : 0 ≤ s) (h1 : s < 4 * m.gears) (n : Nat) : 0 ≤ itM m s n ∧ itM m s n < 4 * m.gears := by
 have := itP_rng (permM_isP m) h0 (by rw [permM_len]; omega) n
 rw [permM_len] at this
 unfold itM
 omega
theorem itM_succ {m : MacV} {s : Int} (h0 : 0 ≤ s) (h1 : s < 4 * m.gears) (n : Nat) : itM m s (n + 1) = nextM m (itM m s n) := by
 have h := itM_rng h0 h1 n
 unfold itM at h ⊢
 rw [itP, permM_at h.1 h.2]
theorem ordM {m : MacV} {s : Int} (h0 : 0 ≤ s) (h1 : s < 4 * m.gears) : ∃ d, Ord (permM m) s d := ord_ex (permM_isP m) h0 (by rw [permM_len]; omega)
theorem least_ex {P : Nat → Prop} (h : ∃ n, P n) : ∃ n, P n ∧ ∀ k, k < n → ¬ P k := by
 obtain ⟨n, hn⟩ := h
 induction n using Nat.strongRecOn with
 | _ n ih =>
  by_cases hx : ∃ k, k < n ∧ P k
  ·obtain ⟨k, hk, hp⟩ := hx; exact ih k hk hp
  ·exact ⟨n, hn, fun k hk hp => hx ⟨k, hk, hp⟩⟩
/-- two carriers are in both slots of a shared place. -/
def hitM (m : MacV) (x y : Int) : Bool := (decide (0 ≤ placeM m x) && sharedM m (placeM m x)) && decide (placeM m x = placeM m y)
/-- what a first meeting is. -/
def MeetR (m : MacV) (a b : Int) : Option (Nat × Int) → Prop
 | some (n, p) => hitM m (itM m a n) (itM m b n) = true ∧ p = placeM m (itM m a n) ∧ ∀ k, k < n → hitM m (itM m a k) (itM m b k) = false
 | none => ∀ k, hitM m (itM m a k) (itM m b k) = false
theorem meet_ex (m : MacV) (a b : Int) : ∃ r, MeetR m a b r := by
 by_cases h : ∃ n, hitM m (itM m a n) (itM m b n) = true
 ·obtain ⟨n, hn, hk⟩ := least_ex h
  exact ⟨some (n, _), hn, rfl, fun k h2 => by simpa using hk k h2⟩
 ·exact ⟨none, fun k => by cases e : hitM m (itM m a k) (itM m b k) with | false => rfl | true => exact absurd ⟨k, e⟩ h⟩
noncomputable def meetM (m : MacV) (a b : Int) : Option (Nat × Int) := Classical.choose (meet_ex m a b)
theorem meetM_spec (m : MacV) (a b : Int) : MeetR m a b (meetM m a b) := Classical.choose_spec (meet_ex m a b)
theorem MeetR.eq {m : MacV} {a b : Int} {r s : Option (Nat × Int)} (h : MeetR m a b r) (k : MeetR m a b s) : r = s := by
 match r, s, h, k with
 | none, none, _, _ => rfl
 | none, some (n, p), h, k => exact absurd (h n) (by rw [k.1]; decide)
 | some (n, p), none, h, k => exact absurd (k n) (by rw [h.1]; decide)
 | some (n, p), some (n', p'), h, k =>
  obtain ⟨h1, h2, h3⟩ := h
  obtain ⟨k1, k2, k3⟩ := k
  have : n = n' := by
   rcases Nat.lt_trichotomy n n' with hl | hl | hl
   ·exact absurd (k3 n hl) (by rw [h1]; decide)
   ·exact hl
   ·exact absurd (h3 n' hl) (by rw [k1]; decide)
  subst this
  rw [h2, k2]
/-- where both are again, without a meeting before: they never meet. -/
theorem meet_none {m : MacV} {a b : Int} {L : Nat} (hL : 0 < L) (ha : itM m a L = a) (hb : itM m b L = b) (h : ∀ k, k < L → hitM m (itM m a k) (itM m b k) = false) : MeetR m a b none := by
 intro k
 have e : k = k % L + k / L * L := by have := Nat.mod_add_div k L; rw [Nat.mul_comm] at this; omega
 have key : ∀ s, itM m s L = s → itM m s k = itM m s (k % L) := by
  intro s hs
  unfold itM at hs ⊢
  conv => lhs; rw [e, itP_add, itP_mul hs]
 rw [key a ha, key b hb]
 exact h _ (Nat.mod_lt _ hL)
/-- the meeting, reckoned; none where the fuel is too little. -/
def meetF (m : MacV) (a b : Int) : Nat → Nat → Int → Int → Option (Option (Nat × Int))
 | 0, _, _, _ => none
 | f + 1, n, x, y => if hitM m x y then some (some (n, placeM m x)) else if nextM m x = a ∧ nextM m y = b then some none else meetF m a b f (n + 1) (nextM m x) (nextM m y)
theorem meetF_go {m : MacV} {a b : Int} (a0 : 0 ≤ a) (a1 : a < 4 * m.gears) (b0 : 0 ≤ b) (b1 : b < 4 * m.gears) : ∀ (f n : Nat) (r : Option (Nat × Int)), (∀ k, k < n → hitM m (itM m a k) (itM m b k) = false) →
  meetF m a b f n (itM m a n) (itM m b n) = some r → MeetR m a b r
 | 0, n, r, _, h => by simp [meetF] at h
 | f + 1, n, r, hno, h => by
   rw [meetF] at h
   split at h
   · rename_i hh; cases h; exact ⟨hh, rfl, hno⟩
   · rename_i hh
     have hno2 : ∀ k, k < n + 1 → hitM m (itM m a k) (itM m b k) = false := fun k hk => by
       by_cases e : k = n
       · subst e; simpa using hh
       · exact hno k (by omega)
     rw [← itM_succ a0 a1, ← itM_succ b0 b1] at h
     split at h
     · rename_i hb
       cases h
       exact meet_none (Nat.succ_pos n) hb.1 hb.2 hno2
     · exact meetF_go a0 a1 b0 b1 f (n + 1) r hno2 h
theorem meetF_ok {m : MacV} {a b : Int} (a0 : 0 ≤ a) (a1 : a < 4 * m.gears) (b0 : 0 ≤ b) (b1 : b < 4 * m.gears) {f : Nat} {r : Option (Nat × Int)} (h : meetF m a b f 0 a b = some r) : meetM m a b = r :=
 (meetM_spec m a b).eq (meetF_go a0 a1 b0 b1 f 0 r (fun k hk => by omega) h)

def befo (v w : Nat × Int) : Bool := decide (v.1 < w.1) || (decide (v.1 = w.1) && decide (v.2 < w.2))
def bestS (b x : Option (Nat × Int)) : Option (Nat × Int) := match x with
 | none => b
 | some v => match b with | none => some v | some w => if befo v w then some v else some w
/-- the pairs that are gone through. -/
def pairsTo (l : List Int) (i : Nat) : List (Int × Int) := (List.range i).flatMap fun j => (l.take j).map fun b => (atD 0 l j, b)
noncomputable def firstTo (m : MacV) (ps : List (Int × Int)) : Option (Nat × Int) := ps.foldl (fun b p => bestS b (meetM m p.1 p.2)) none
noncomputable def firstM (m : MacV) (l : List Int) : Option (Nat × Int) := firstTo m (pairsTo l l.length)
theorem pairsTo_succ (l : List Int) (i : Nat) : pairsTo l (i + 1) = pairsTo l i ++ (l.take i).map fun b => (atD 0 l i, b) := by simp [pairsTo, List.range_succ]
theorem firstTo_snoc (m : MacV) (ps : List (Int × Int)) (p : Int × Int) : firstTo m (ps ++ [p]) = bestS (firstTo m ps) (meetM m p.1 p.2) := by simp [firstTo]
end Go.Proofs.YtdeoogbiipodmaaGreat

namespace Go.Proofs.YtdeoogbiipodmaaGreat
set_option maxRecDepth 100000

/-- the first index of a number, or none. -/
def idxO (l : List Int) (x : Int) : Option Int := if l.findIdx (· == x) < l.length then some (l.findIdx (· == x) : Int) else none
theorem idxO_some {l : List Int} {x i : Int} (h : idxO l x = some i) : 0 ≤ i ∧ i < l.length ∧ l[i.toNat]? = some x := by
 unfold idxO at h
 split at h
 ·rename_i hlt
  cases h
  refine ⟨by omega, by omega, ?_⟩
  have := List.findIdx_getElem (xs := l) (p := (· == x)) (w := hlt)
  simp at this
  simp [hlt, this]
 ·cases h
theorem idxO_eq {l : List Int} {x : Int} {k : Nat} (hk : k < l.length) (h : l[k]? = some x) (hno : ∀ j : Nat, j < k → l[j]? ≠ some x) : idxO l x = some (k : Int) := by
 have e : l.findIdx (· == x) = k := by
  rw [List.findIdx_eq hk]
  refine ⟨?_, fun j hj => ?_⟩
  ·rw [List.getElem?_eq_getElem hk] at h
   cases h; simp
  ·have h1 := hno j hj
   rw [List.getElem?_eq_getElem (by omega)] at h1
   simpa using h1
 unfold idxO
 rw [e, if_pos hk]

/-- the gears from left to right, their slots in their order. -/
def gearsL (m : MacV) : List Int := (List.range m.gears.toNat).map fun (g : Nat) => (g : Int)
def slotsG (m : MacV) (g : Int) : List Int := if fwdM m g then [4 * g, 4 * g + 1, 4 * g + 3, 4 * g + 2] else [4 * g, 4 * g + 3, 4 * g + 1, 4 * g + 2]
def slotG (m : MacV) (g : Int) : Nat → Int
 | 0 => 4 * g
 | 1 => if fwdM m g then 4 * g + 1 else 4 * g + 3
 | 2 => if fwdM m g then 4 * g + 3 else 4 * g + 1
 | _ => 4 * g + 2
theorem slotsG_eq (m : MacV) (g : Int) : slotsG m g = [slotG m g 0, slotG m g 1, slotG m g 2, slotG m g 3] := by
 unfold slotsG slotG
 split <;> simp [*]
theorem slotG_div (m : MacV) (g : Int) (i : Nat) : slotG m g i / 4 = g := by
 unfold slotG
 split
 ·omega
 ·split <;> omega
 ·split <;> omega
 ·omega
/-- the numbers of carriers from left to right. -/
def orderG (m : MacV) (l : List Int) (g : Int) : List Int := (slotsG m g).filterMap (idxO l)
def orderM (m : MacV) (l : List Int) : List Int := (gearsL m).flatMap (orderG m l)

structure CrM where
 gear : Int
 over : Int
 under : Int
 going : Int
deriving DecidableEq
def crossA (m : MacV) (l : List Int) (g : Int) (x y : Nat) : Option CrM := match idxO l (slotG m g x), idxO l (slotG m g y) with
 | some a, some b => some (if fwdM m g then ⟨g, b, a, a⟩ else ⟨g, a, b, a⟩)
 | _, _ => none
def pairsX : List (Nat × Nat) := [(1, 2), (0, 2), (1, 3)]
def crossG (m : MacV) (l : List Int) (g : Int) : List CrM := pairsX.filterMap fun p => crossA m l g p.1 p.2
def crossM (m : MacV) (l : List Int) : List CrM := (gearsL m).flatMap (crossG m l)

def swpL (r : List Int) (i : Nat) : List Int := (r.set i (r.getD (i + 1) 0)).set (i + 1) (r.getD i 0)
def idxZ (l : List Int) (x : Int) : Int := (idxO l x).getD (-1)
def letterC (r : List Int) (c : CrM) : Int := if c.over = c.going then idxZ r c.going + 1 else -(idxZ r c.going) - 1
def weaveC (st : List Int × List Int) (c : CrM) : List Int × List Int := (swpL st.1 (idxZ st.1 c.going).toNat, st.2 ++ [letterC st.1 c])
def weaveS (m : MacV) (st : List Int × List Int) (l : List Int) : List Int × List Int := (crossM m l).foldl weaveC st
def stepL (m : MacV) (l : List Int) : List Int := l.map (nextM m)
theorem swpL_at (A C : List Int) (a b : Int) : swpL (A ++ a :: b :: C) A.length = A ++ b :: a :: C := by
 unfold swpL
 have h1 : (A ++ a :: b :: C).getD (A.length + 1) 0 = b := by simp [List.getD_eq_getElem?_getD]
 have h2 : (A ++ a :: b :: C).getD A.length 0 = a := by simp [List.getD_eq_getElem?_getD]
 rw [h1, h2, List.set_append_right _ _ (Nat.le_refl _), List.set_append_right _ _ (by omega)]
 simp
theorem idxO_mid {A C : List Int} {a : Int} (h : a ∉ A) : idxO (A ++ a :: C) a = some (A.length : Int) := by
 refine idxO_eq (by simp) (by simp) (fun j hj e => h ?_)
 rw [List.getElem?_append_left hj] at e
 exact List.mem_of_getElem? e
def bothX (f : Int → Int → CrM) (x y : Option Int) : Option CrM := match x, y with | some a, some b => some (f a b) | _, _ => none
/-- two neighbours that cross, if both are there. -/
theorem cross_swap {A C : List Int} {x y : Option Int} (hn : (A ++ [x, y].filterMap id ++ C).Nodup) {f : Int → Int → CrM} (hf : ∀ a b, (f a b).going = a) (out : List Int) :
  ∃ out', ((bothX f x y).toList.foldl weaveC (A ++ [x, y].filterMap id ++ C, out)) = (A ++ [y, x].filterMap id ++ C, out') ∧ (A ++ [y, x].filterMap id ++ C).Nodup := by
 match x, y with
 | none, none => exact ⟨out, rfl, hn⟩
 | none, some b => exact ⟨out, rfl, hn⟩
 | some a, none => exact ⟨out, rfl, hn⟩
 | some a, some b =>
  have ha : a ∉ A := by
   intro hm
   have h1 := List.nodup_append.1 (List.append_assoc _ _ _ ▸ hn)
   exact h1.2.2 a hm a (by simp) rfl
  have e : (A ++ [some a, some b].filterMap id ++ C) = A ++ a :: b :: C := by simp
  have e2 : (A ++ [some b, some a].filterMap id ++ C) = A ++ b :: a :: C := by simp
  rw [e] at hn ⊢
  rw [e2]
  refine ⟨out ++ [letterC (A ++ a :: b :: C) (f a b)], ?_, ?_⟩
  ·simp only [bothX, Option.toList, List.foldl_cons, List.foldl_nil, weaveC, hf]
   have : (idxZ (A ++ a :: b :: C) a).toNat = A.length := by unfold idxZ; rw [idxO_mid ha]; simp
   rw [this, swpL_at]
  ·refine hn.perm ?_
   exact List.Perm.append_left A (List.Perm.swap b a C)
end Go.Proofs.YtdeoogbiipodmaaGreat

namespace Go.Proofs.YtdeoogbiipodmaaGreat
set_option maxRecDepth 100000
theorem swp_atD {p : List Int} {i : Nat} (hi : i + 1 < p.length) {x : Int} (h0 : 0 ≤ x) : atD 0 (swpL p i) x = atD 0 p (sw i ((i : Int) + 1) x) := by
 have e : swpL p i = (p.set ((i : Int)).toNat (atD 0 p ((i : Int) + 1))).set ((i : Int) + 1).toNat (atD 0 p (i : Int)) := by
  have e1 : (i : Int).toNat = i := by omega
  have e2 : ((i : Int) + 1).toNat = i + 1 := by omega
  unfold swpL atD
  rw [e1, e2]
 rw [e, atD_set (by omega) (by rw [List.length_set]; omega) h0, atD_set (by omega) (by omega) h0]
 unfold sw
 by_cases a : x = (i : Int) + 1
 ·rw [if_pos a, if_neg (by omega), if_pos a]
 ·rw [if_neg a]
  by_cases b : x = (i : Int)
  ·rw [if_pos b, if_pos b]
  ·rw [if_neg b, if_neg b, if_neg a]
theorem swp_length (p : List Int) (i : Nat) : (swpL p i).length = p.length := by unfold swpL; simp
theorem swp_isP {p : List Int} (h : IsP p) {i : Nat} (hi : i + 1 < p.length) : IsP (swpL p i) := by
 have rg : ∀ x : Int, 0 ≤ x → x < p.length → 0 ≤ sw i ((i : Int) + 1) x ∧ sw i ((i : Int) + 1) x < p.length := fun x a b => sw_rng ⟨by omega, by omega⟩ ⟨by omega, by omega⟩ ⟨a, b⟩
 refine ⟨fun x x0 x1 => ?_, fun x y x0 x1 y0 y1 e => ?_⟩
 ·rw [swp_length] at x1 ⊢
  rw [swp_atD hi x0]
  exact h.rng _ (rg x x0 x1).1 (rg x x0 x1).2
 ·rw [swp_length] at x1 y1
  rw [swp_atD hi x0, swp_atD hi y0] at e
  have := congrArg (sw i ((i : Int) + 1)) (h.inj _ _ (rg x x0 x1).1 (rg x x0 x1).2 (rg y y0 y1).1 (rg y y0 y1).2 e)
  rwa [sw_sw, sw_sw] at this
theorem inv_uniq {p q : List Int} (hp : IsP p) (hq : q.length = p.length) (h : ∀ x : Int, 0 ≤ x → x < p.length → 0 ≤ atD 0 q x ∧ atD 0 q x < p.length ∧ atD 0 p (atD 0 q x) = x) : invL p = q := by
 refine ext_atD (by rw [invL_len, hq]) fun j j0 j1 => ?_
 rw [invL_len] at j1
 obtain ⟨a, b, c⟩ := h j j0 j1
 have := invL_left hp a b
 rwa [c] at this
theorem inv_inv {p : List Int} (hp : IsP p) : invL (invL p) = p :=
 inv_uniq (invL_isP hp) (by rw [invL_len]) fun x x0 x1 => by
  rw [invL_len] at x1 ⊢
  have := hp.rng x x0 x1
  exact ⟨this.1, this.2, invL_left hp x0 x1⟩
/-- a permutation of n positions. -/
def VP (n : Nat) (p : List Int) : Prop := IsP p ∧ p.length = n
def bgP (p : List Int) (i : Nat) : Bool := decide (atD 0 p ((i : Int) + 1) < atD 0 p (i : Int))
def edP (p : List Int) (i : Nat) : Bool := bgP (invL p) i
def bkP (p : List Int) (i : Nat) : List Int := invL (swpL (invL p) i)
def revP (n : Nat) : List Int := (List.range n).map fun (i : Nat) => (n : Int) - 1 - i
def flP (p : List Int) : List Int := (List.range p.length).map fun (i : Nat) => (p.length : Int) - 1 - atD 0 p ((p.length : Int) - 1 - i)
def coP (p : List Int) : List Int := (List.range p.length).map fun (i : Nat) => (p.length : Int) - 1 - atD 0 (invL p) (i : Int)
theorem map_atD {n : Nat} (f : Int → Int) {x : Int} (h0 : 0 ≤ x) (h1 : x < n) : atD 0 ((List.range n).map fun (i : Nat) => f (i : Int)) x = f x := by
 have e : (x.toNat : Int) = x := by omega
 unfold atD
 rw [List.getD_eq_getElem?_getD, List.getElem?_map, List.getElem?_range (by omega)]
 simp [e]
section
variable {n : Nat} {p : List Int} {i : Nat}
theorem VP.rg (h : VP n p) {x : Int} (h0 : 0 ≤ x) (h1 : x < n) : 0 ≤ atD 0 p x ∧ atD 0 p x < n := by have := h.1.rng x h0 (by rw [h.2]; exact h1); rwa [h.2] at this
theorem VP.pi (h : VP n p) {x y : Int} (h0 : 0 ≤ x) (h1 : x < n) (k0 : 0 ≤ y) (k1 : y < n) (e : atD 0 p x = atD 0 p y) : x = y := h.1.inj x y h0 (by rw [h.2]; exact h1) k0 (by rw [h.2]; exact k1) e
theorem VP.inv (h : VP n p) : VP n (invL p) := ⟨invL_isP h.1, by rw [invL_len, h.2]⟩
theorem VP.qp (h : VP n p) {x : Int} (h0 : 0 ≤ x) (h1 : x < n) : atD 0 (invL p) (atD 0 p x) = x := invL_left h.1 h0 (by rw [h.2]; exact h1)
theorem VP.pq (h : VP n p) {x : Int} (h0 : 0 ≤ x) (h1 : x < n) : atD 0 p (atD 0 (invL p) x) = x := invL_right h.1 h0 (by rw [h.2]; exact h1)
theorem VP.ext (h : VP n p) {q : List Int} (k : q.length = n) (e : ∀ x : Int, 0 ≤ x → x < n → atD 0 p x = atD 0 q x) : p = q := ext_atD (by rw [h.2, k]) fun j j0 j1 => e j j0 (by rw [← h.2]; exact j1)
theorem VP.fr (h : VP n p) (hi : i + 1 < n) : VP n (swpL p i) := ⟨swp_isP h.1 (by rw [h.2]; exact hi), by rw [swp_length, h.2]⟩
theorem VP.bk (h : VP n p) (hi : i + 1 < n) : VP n (bkP p i) := (h.inv.fr hi).inv
theorem VP.fr_at (h : VP n p) (hi : i + 1 < n) {x : Int} (h0 : 0 ≤ x) : atD 0 (swpL p i) x = atD 0 p (sw i ((i : Int) + 1) x) := swp_atD (by rw [h.2]; exact hi) h0
theorem VP.sw_in (hi : i + 1 < n) {x : Int} (h0 : 0 ≤ x) (h1 : x < n) : 0 ≤ sw i ((i : Int) + 1) x ∧ sw i ((i : Int) + 1) x < n := sw_rng ⟨by omega, by omega⟩ ⟨by omega, by omega⟩ ⟨h0, h1⟩
theorem VP.fr_inv (h : VP n p) (hi : i + 1 < n) {y : Int} (h0 : 0 ≤ y) (h1 : y < n) : atD 0 (invL (swpL p i)) y = sw i ((i : Int) + 1) (atD 0 (invL p) y) := by
 have hq := h.inv.rg h0 h1
 have hs := VP.sw_in hi hq.1 hq.2
 have e := (h.fr hi).qp hs.1 hs.2
 rwa [h.fr_at hi hs.1, sw_sw, h.pq h0 h1] at e
theorem VP.bk_inv (h : VP n p) (hi : i + 1 < n) : invL (bkP p i) = swpL (invL p) i := inv_inv (h.inv.fr hi).1
theorem VP.bk_at (h : VP n p) (hi : i + 1 < n) {x : Int} (h0 : 0 ≤ x) (h1 : x < n) : atD 0 (bkP p i) x = sw i ((i : Int) + 1) (atD 0 p x) := by
 unfold bkP
 rw [h.inv.fr_inv hi h0 h1, inv_inv h.1]
theorem VP.bg_fr (h : VP n p) (hi : i + 1 < n) {j : Nat} : bgP (swpL p i) j = decide (atD 0 p (sw i ((i : Int) + 1) ((j : Int) + 1)) < atD 0 p (sw i ((i : Int) + 1) j)) := by
 unfold bgP
 rw [h.fr_at hi (by omega), h.fr_at hi (by omega)]
theorem VP.bg_bk (h : VP n p) (hi : i + 1 < n) {j : Nat} (hj : j + 1 < n) : bgP (bkP p i) j = decide (sw i ((i : Int) + 1) (atD 0 p ((j : Int) + 1)) < sw i ((i : Int) + 1) (atD 0 p j)) := by
 unfold bgP
 rw [h.bk_at hi (by omega) (by omega), h.bk_at hi (by omega) (by omega)]
theorem VP.ed_fr (h : VP n p) (hi : i + 1 < n) {j : Nat} (hj : j + 1 < n) : edP (swpL p i) j = decide (sw i ((i : Int) + 1) (atD 0 (invL p) ((j : Int) + 1)) < sw i ((i : Int) + 1) (atD 0 (invL p) j)) := by
 unfold edP bgP
 rw [h.fr_inv hi (by omega) (by omega), h.fr_inv hi (by omega) (by omega)]
theorem VP.ed_bk (h : VP n p) (hi : i + 1 < n) {j : Nat} : edP (bkP p i) j = decide (atD 0 (invL p) (sw i ((i : Int) + 1) ((j : Int) + 1)) < atD 0 (invL p) (sw i ((i : Int) + 1) j)) := by
 unfold edP
 rw [h.bk_inv hi, h.inv.bg_fr hi]
end
theorem sw_out {i x : Int} (h : x ≠ i) (k : x ≠ i + 1) : sw i (i + 1) x = x := by unfold sw; rw [if_neg h, if_neg k]
theorem sw_l (i : Int) : sw i (i + 1) i = i + 1 := by unfold sw; rw [if_pos rfl]
theorem sw_r (i : Int) : sw i (i + 1) (i + 1) = i := by unfold sw; rw [if_neg (by omega), if_pos rfl]
theorem sw_far {i j : Int} (h : i + 1 < j) (x : Int) : sw i (i + 1) (sw j (j + 1) x) = sw j (j + 1) (sw i (i + 1) x) := by unfold sw; repeat' split <;> omega
theorem sw_near (i x : Int) : sw i (i + 1) (sw (i + 1) (i + 1 + 1) (sw i (i + 1) x)) = sw (i + 1) (i + 1 + 1) (sw i (i + 1) (sw (i + 1) (i + 1 + 1) x)) := by unfold sw; repeat' split <;> omega
theorem sw_lt {i a b : Int} (h : a < b) (k : ¬ (a = i ∧ b = i + 1)) : sw i (i + 1) a < sw i (i + 1) b := by unfold sw; repeat' split <;> omega
theorem sw_rev {n i j x : Int} (h : j = n - 2 - i) : n - 1 - sw j (j + 1) x = sw i (i + 1) (n - 1 - x) := by unfold sw; repeat' split <;> omega
def sumK : Nat → List Int → Int
 | _, [] => 0
 | k, a :: l => k * a + sumK (k + 1) l
theorem sumK_swp : ∀ (A C : List Int) (k : Nat) (x y : Int), sumK k (A ++ y :: x :: C) = sumK k (A ++ x :: y :: C) + (x - y)
 | [], C, k, x, y => by
   simp only [List.nil_append, sumK, Int.natCast_add, Int.natCast_one, Int.add_mul, Int.one_mul]
   omega
 | a :: A, C, k, x, y => by
   simp only [List.cons_append, sumK]
   rw [sumK_swp A C (k + 1) x y]
   omega
theorem sumK_lt {n : Nat} : ∀ (l : List Int) (k : Nat), (∀ x ∈ l, 0 ≤ x ∧ x < n) → k + l.length ≤ n → 0 ≤ sumK k l ∧ sumK k l ≤ ((l.length * (n * n) : Nat) : Int)
 | [], k, _, _ => by simp [sumK]
 | a :: l, k, h, hk => by
   have h1 := sumK_lt l (k + 1) (fun x hx => h x (by simp [hx])) (by simp only [List.length_cons] at hk; omega)
   obtain ⟨a0, a1⟩ := h a (by simp)
   have h2 : 0 ≤ (k : Int) * a := Int.mul_nonneg (by omega) a0
   have h3 : (k : Int) * a ≤ ((n * n : Nat) : Int) := by
     rw [Int.natCast_mul]
     exact Int.mul_le_mul (by simp only [List.length_cons] at hk; omega) (by omega) a0 (by omega)
   simp only [sumK, List.length_cons, Nat.add_mul, Nat.one_mul, Int.natCast_add]
   omega
theorem swp_split {q : List Int} {i : Nat} (hi : i + 1 < q.length) : ∃ A C x y, A.length = i ∧ q = A ++ x :: y :: C ∧ swpL q i = A ++ y :: x :: C ∧ atD 0 q (i : Int) = x ∧ atD 0 q ((i : Int) + 1) = y := by
 refine ⟨q.take i, q.drop (i + 2), q[i], q[i + 1], by simp; omega, ?_, ?_, ?_, ?_⟩
 ·rw [List.getElem_cons_drop, List.getElem_cons_drop, List.take_append_drop]
 ·have e : q = q.take i ++ q[i] :: q[i + 1] :: q.drop (i + 2) := by rw [List.getElem_cons_drop, List.getElem_cons_drop, List.take_append_drop]
  have h := swpL_at (q.take i) (q.drop (i + 2)) q[i] q[i + 1]
  rw [← e, show (q.take i).length = i by simp; omega] at h
  exact h
 ·unfold atD
  rw [List.getD_eq_getElem?_getD, show (i : Int).toNat = i by omega, List.getElem?_eq_getElem (by omega)]; rfl
 ·unfold atD
  rw [List.getD_eq_getElem?_getD, show ((i : Int) + 1).toNat = i + 1 by omega, List.getElem?_eq_getElem (by omega)]; rfl
def htP (p : List Int) : Nat := (sumK 0 (invL p)).toNat
theorem VP.mem {n : Nat} {p : List Int} (h : VP n p) : ∀ x ∈ p, 0 ≤ x ∧ x < n := by
 intro x hx
 obtain ⟨k, hk, rfl⟩ := List.getElem_of_mem hx
 have := h.rg (x := (k : Int)) (by omega) (by have := h.2; omega)
 unfold atD at this
 rwa [List.getD_eq_getElem?_getD, show (k : Int).toNat = k by omega, List.getElem?_eq_getElem hk] at this
theorem ht_lt {n : Nat} {p : List Int} (h : VP n p) : htP p < n * (n * n) + 1 := by
 have := sumK_lt (n := n) (invL p) 0 h.inv.mem (by rw [h.inv.2]; omega)
 rw [h.inv.2] at this
 unfold htP
 omega
theorem ht_bk {n : Nat} {p : List Int} {i : Nat} (h : VP n p) (hi : i + 1 < n) (he : edP p i = false) : htP (bkP p i) < htP p := by
 have hn := h.inv
 obtain ⟨A, C, x, y, hA, e1, e2, hx, hy⟩ := swp_split (q := invL p) (i := i) (by rw [hn.2]; exact hi)
 have hs := sumK_swp A C 0 x y
 rw [← e1, ← e2] at hs
 unfold edP bgP at he
 have he := of_decide_eq_false he
 rw [hx, hy] at he
 have hne : x ≠ y := fun e => by
  have := hn.pi (x := (i : Int)) (y := (i : Int) + 1) (by omega) (by omega) (by omega) (by omega) (by rw [hx, hy, e])
  omega
 have h0 := sumK_lt (n := n) (swpL (invL p) i) 0 (hn.fr hi).mem (by rw [(hn.fr hi).2]; omega)
 have h1 := sumK_lt (n := n) (invL p) 0 hn.mem (by rw [hn.2]; omega)
 unfold htP
 rw [h.bk_inv hi]
 omega
end Go.Proofs.YtdeoogbiipodmaaGreat

namespace Go.Proofs.YtdeoogbiipodmaaGreat
set_option maxRecDepth 100000
theorem idL_VP (n : Nat) : VP n (idL n) := ⟨idL_isP n, by rw [idL_len]⟩
theorem rev_at {n : Nat} {x : Int} (h0 : 0 ≤ x) (h1 : x < n) : atD 0 (revP n) x = n - 1 - x := map_atD (fun x => (n : Int) - 1 - x) h0 h1
theorem rev_len (n : Nat) : (revP n).length = n := by simp [revP]
theorem VP_of {n : Nat} {l : List Int} (hl : l.length = n) (f g : Int → Int) (hf : ∀ x : Int, 0 ≤ x → x < n → atD 0 l x = f x) (hr : ∀ x : Int, 0 ≤ x → x < n → 0 ≤ f x ∧ f x < n) (hg : ∀ x : Int, 0 ≤ x → x < n → g (f x) = x) : VP n l := by
 refine ⟨⟨fun x x0 x1 => ?_, fun x y x0 x1 y0 y1 e => ?_⟩, hl⟩
 ·rw [hl] at x1 ⊢; rw [hf x x0 x1]; exact hr x x0 x1
 ·rw [hl] at x1 y1
  rw [hf x x0 x1, hf y y0 y1] at e
  rw [← hg x x0 x1, e, hg y y0 y1]
theorem VP.inv_eq {n : Nat} {p : List Int} (h : VP n p) (g : Int → Int) (hr : ∀ x : Int, 0 ≤ x → x < n → 0 ≤ g x ∧ g x < n ∧ atD 0 p (g x) = x) {y : Int} (h0 : 0 ≤ y) (h1 : y < n) : atD 0 (invL p) y = g y := by
 obtain ⟨a, b, c⟩ := hr y h0 h1
 have := h.qp a b
 rwa [c] at this
theorem rev_VP (n : Nat) : VP n (revP n) := VP_of (rev_len n) (fun x => n - 1 - x) (fun x => n - 1 - x) (fun x a b => rev_at a b) (fun x a b => by omega) (fun x a b => by omega)
theorem rev_inv {n : Nat} {y : Int} (h0 : 0 ≤ y) (h1 : y < n) : atD 0 (invL (revP n)) y = n - 1 - y := (rev_VP n).inv_eq (fun y => n - 1 - y) (fun x a b => ⟨by omega, by omega, by rw [rev_at (by omega) (by omega)]; omega⟩) h0 h1
theorem id_inv {n : Nat} {y : Int} (h0 : 0 ≤ y) (h1 : y < n) : atD 0 (invL (idL n)) y = y := (idL_VP n).inv_eq (fun y => y) (fun x a b => ⟨a, b, idL_at a b⟩) h0 h1
section
variable {n : Nat} {p : List Int}
theorem VP.fl_at (h : VP n p) {x : Int} (h0 : 0 ≤ x) (h1 : x < n) : atD 0 (flP p) x = n - 1 - atD 0 p (n - 1 - x) := by
 unfold flP
 rw [h.2]
 exact map_atD (fun x => (n : Int) - 1 - atD 0 p (n - 1 - x)) h0 h1
theorem VP.co_at (h : VP n p) {x : Int} (h0 : 0 ≤ x) (h1 : x < n) : atD 0 (coP p) x = n - 1 - atD 0 (invL p) x := by
 unfold coP
 rw [h.2]
 exact map_atD (fun x => (n : Int) - 1 - atD 0 (invL p) x) h0 h1
theorem VP.fl (h : VP n p) : VP n (flP p) := VP_of (by unfold flP; simp [h.2]) (fun x => n - 1 - atD 0 p (n - 1 - x)) (fun x => n - 1 - atD 0 (invL p) (n - 1 - x)) (fun x a b => h.fl_at a b)
 (fun x a b => by have := h.rg (x := n - 1 - x) (by omega) (by omega); omega)
 (fun x a b => by rw [show (n : Int) - 1 - (n - 1 - atD 0 p (n - 1 - x)) = atD 0 p (n - 1 - x) by omega, h.qp (by omega) (by omega)]; omega)
theorem VP.co (h : VP n p) : VP n (coP p) := VP_of (by unfold coP; simp [h.2]) (fun x => n - 1 - atD 0 (invL p) x) (fun x => atD 0 p (n - 1 - x)) (fun x a b => h.co_at a b)
 (fun x a b => by have := h.inv.rg a b; omega)
 (fun x a b => by rw [show (n : Int) - 1 - (n - 1 - atD 0 (invL p) x) = atD 0 (invL p) x by omega, h.pq a b])
theorem VP.fl_inv (h : VP n p) {y : Int} (h0 : 0 ≤ y) (h1 : y < n) : atD 0 (invL (flP p)) y = n - 1 - atD 0 (invL p) (n - 1 - y) :=
 h.fl.inv_eq (fun y => n - 1 - atD 0 (invL p) (n - 1 - y)) (fun x a b => by
  have := h.inv.rg (x := n - 1 - x) (by omega) (by omega)
  refine ⟨by omega, by omega, ?_⟩
  rw [h.fl_at (by omega) (by omega), show (n : Int) - 1 - (n - 1 - atD 0 (invL p) (n - 1 - x)) = atD 0 (invL p) (n - 1 - x) by omega, h.pq (by omega) (by omega)]
  omega) h0 h1
theorem VP.co_inv (h : VP n p) {y : Int} (h0 : 0 ≤ y) (h1 : y < n) : atD 0 (invL (coP p)) y = atD 0 p (n - 1 - y) :=
 h.co.inv_eq (fun y => atD 0 p (n - 1 - y)) (fun x a b => by
  have := h.rg (x := n - 1 - x) (by omega) (by omega)
  refine ⟨by omega, by omega, ?_⟩
  rw [h.co_at (by omega) (by omega), h.qp (by omega) (by omega)]
  omega) h0 h1
theorem VP.ne (h : VP n p) {j : Nat} (hj : j + 1 < n) : atD 0 p (j : Int) ≠ atD 0 p ((j : Int) + 1) := fun e => by
 have := h.pi (x := (j : Int)) (y := (j : Int) + 1) (by omega) (by omega) (by omega) (by omega) e
 omega
theorem VP.up (h : VP n p) (k : ∀ i, i + 1 < n → bgP p i = false) : ∀ x : Int, 0 ≤ x → x < n → atD 0 p x = x := by
 have st : ∀ j : Nat, j + 1 < n → atD 0 p (j : Int) < atD 0 p ((j : Int) + 1) := fun j hj => by
  have a := k j hj
  unfold bgP at a
  have a := of_decide_eq_false a
  have b := h.ne hj
  omega
 have lo : ∀ j : Nat, j < n → (j : Int) ≤ atD 0 p j := by
  intro j
  induction j with
  | zero => intro hj; exact (h.rg (x := ((0 : Nat) : Int)) (by omega) (by omega)).1
  | succ j ih =>
   intro hj
   have := ih (by omega)
   have := st j hj
   rw [show ((j + 1 : Nat) : Int) = (j : Int) + 1 by omega]
   omega
 have hi : ∀ d j : Nat, j + d + 1 = n → atD 0 p j ≤ j := by
  intro d
  induction d with
  | zero =>
   intro j hj
   have := (h.rg (x := (j : Int)) (by omega) (by omega)).2
   omega
  | succ d ih =>
   intro j hj
   have a := ih (j + 1) (by omega)
   have b := st j (by omega)
   rw [show ((j + 1 : Nat) : Int) = (j : Int) + 1 by omega] at a
   omega
 intro x x0 x1
 obtain ⟨j, rfl⟩ : ∃ j : Nat, x = j := ⟨x.toNat, by omega⟩
 have a := lo j (by omega)
 have b := hi (n - 1 - j) j (by omega)
 omega
theorem VP.down (h : VP n p) (k : ∀ i, i + 1 < n → bgP p i = true) : ∀ x : Int, 0 ≤ x → x < n → atD 0 p x = n - 1 - x := by
 have hv : VP n ((List.range n).map fun (i : Nat) => (n : Int) - 1 - atD 0 p i) := VP_of (by simp) (fun x => n - 1 - atD 0 p x) (fun x => atD 0 (invL p) (n - 1 - x)) (fun x a b => map_atD (fun x => (n : Int) - 1 - atD 0 p x) a b)
  (fun x a b => by have := h.rg a b; omega) (fun x a b => by rw [show (n : Int) - 1 - (n - 1 - atD 0 p x) = atD 0 p x by omega, h.qp a b])
 have hu := hv.up fun i hi => by
  have a := k i hi
  unfold bgP at a ⊢
  have a := of_decide_eq_true a
  rw [map_atD (fun x => (n : Int) - 1 - atD 0 p x) (by omega) (by omega), map_atD (fun x => (n : Int) - 1 - atD 0 p x) (by omega) (by omega)]
  exact decide_eq_false (by omega)
 intro x x0 x1
 have := hu x x0 x1
 rw [map_atD (fun x => (n : Int) - 1 - atD 0 p x) x0 x1] at this
 omega
end
noncomputable def garN (n : Nat) : GarT (List Int) where
 N := n - 1
 V := VP n
 B := bgP
 E := edP
 fr := swpL
 bk := bkP
 ht := htP
 K := n * (n * n) + 1
 vfr h hi := h.fr (by omega)
 vbk h hi := h.bk (by omega)
 hK h := ht_lt h
 lbk h hi he := ht_bk h (by omega) he
 farF {b i j} h hi hj hf := by
  have hi : i + 1 < n := by omega
  have hj : j + 1 < n := by omega
  refine ⟨?_, ?_, ?_⟩
  ·rw [h.bg_fr hi, sw_out (by omega) (by omega), sw_out (by omega) (by omega)]; rfl
  ·rw [h.bg_fr hj, sw_out (by omega) (by omega), sw_out (by omega) (by omega)]; rfl
  ·refine ((h.fr hi).fr hj).ext ((h.fr hj).fr hi).2 fun x x0 x1 => ?_
   have a := VP.sw_in hi x0 x1
   have b := VP.sw_in hj x0 x1
   rw [(h.fr hi).fr_at hj x0, h.fr_at hi b.1, (h.fr hj).fr_at hi x0, h.fr_at hj a.1, sw_far (i := (i : Int)) (j := (j : Int)) (by omega)]
 farB {b i j} h hi hj hf := by
  have hi : i + 1 < n := by omega
  have hj : j + 1 < n := by omega
  refine ⟨?_, ?_, ?_⟩
  ·rw [h.ed_bk hi, sw_out (by omega) (by omega), sw_out (by omega) (by omega)]; rfl
  ·rw [h.ed_bk hj, sw_out (by omega) (by omega), sw_out (by omega) (by omega)]; rfl
  ·refine ((h.bk hi).bk hj).ext ((h.bk hj).bk hi).2 fun x x0 x1 => ?_
   rw [(h.bk hi).bk_at hj x0 x1, h.bk_at hi x0 x1, (h.bk hj).bk_at hi x0 x1, h.bk_at hj x0 x1, sw_far (i := (i : Int)) (j := (j : Int)) (by omega)]
 nearF {b i} h hi h1 h2 := by
  have hi : i + 1 < n := by omega
  have hj : i + 1 + 1 < n := by omega
  unfold bgP at h1 h2
  have h1 := of_decide_eq_true h1
  have h2 := of_decide_eq_true h2
  have c : ((i + 1 : Nat) : Int) = (i : Int) + 1 := by omega
  rw [c] at h2
  refine ⟨⟨?_, ?_⟩, ⟨?_, ?_⟩, ?_⟩
  ·rw [h.bg_fr hi, c, sw_out (by omega) (by omega), sw_r]; exact decide_eq_true (by omega)
  ·rw [(h.fr hi).bg_fr hj, c, sw_l, sw_out (by omega) (by omega), h.fr_at hi (by omega), h.fr_at hi (by omega), sw_out (by omega) (by omega), sw_l]; exact decide_eq_true (by omega)
  ·rw [h.bg_fr hj, c, sw_l, sw_out (by omega) (by omega)]; exact decide_eq_true (by omega)
  ·rw [(h.fr hj).bg_fr hi, c, sw_out (by omega) (by omega), sw_r, h.fr_at hj (by omega), h.fr_at hj (by omega), c, sw_r, sw_out (by omega) (by omega)]; exact decide_eq_true (by omega)
  ·refine (((h.fr hi).fr hj).fr hi).ext (((h.fr hj).fr hi).fr hj).2 fun x x0 x1 => ?_
   have a := VP.sw_in hi x0 x1
   have b := VP.sw_in hj x0 x1
   have a2 := VP.sw_in hj a.1 a.2
   have b2 := VP.sw_in hi b.1 b.2
   rw [((h.fr hi).fr hj).fr_at hi x0, (h.fr hi).fr_at hj a.1, h.fr_at hi a2.1, ((h.fr hj).fr hi).fr_at hj x0, (h.fr hj).fr_at hi b.1, h.fr_at hj b2.1, c, sw_near]
 nearB {b i} h hi h1 h2 := by
  have hi : i + 1 < n := by omega
  have hj : i + 1 + 1 < n := by omega
  unfold edP bgP at h1 h2
  have h1 := of_decide_eq_false h1
  have h2 := of_decide_eq_false h2
  have c : ((i + 1 : Nat) : Int) = (i : Int) + 1 := by omega
  rw [c] at h2
  refine ⟨⟨?_, ?_⟩, ⟨?_, ?_⟩, ?_⟩
  ·rw [h.ed_bk hi, c, sw_out (by omega) (by omega), sw_r]; exact decide_eq_false (by omega)
  ·rw [(h.bk hi).ed_bk hj, c, sw_l, sw_out (by omega) (by omega), h.bk_inv hi, h.inv.fr_at hi (by omega), h.inv.fr_at hi (by omega), sw_out (by omega) (by omega), sw_l]; exact decide_eq_false (by omega)
  ·rw [h.ed_bk hj, c, sw_l, sw_out (by omega) (by omega)]; exact decide_eq_false (by omega)
  ·rw [(h.bk hj).ed_bk hi, c, sw_out (by omega) (by omega), sw_r, h.bk_inv hj, h.inv.fr_at hj (by omega), h.inv.fr_at hj (by omega), c, sw_r, sw_out (by omega) (by omega)]; exact decide_eq_false (by omega)
  ·refine (((h.bk hi).bk hj).bk hi).ext (((h.bk hj).bk hi).bk hj).2 fun x x0 x1 => ?_
   rw [((h.bk hi).bk hj).bk_at hi x0 x1, (h.bk hi).bk_at hj x0 x1, h.bk_at hi x0 x1, ((h.bk hj).bk hi).bk_at hj x0 x1, (h.bk hj).bk_at hi x0 x1, h.bk_at hj x0 x1, c, sw_near]
 mid {b i j} h hi hj h1 h2 := by
  have hi : i + 1 < n := by omega
  have hj : j + 1 < n := by omega
  unfold bgP at h1
  unfold edP bgP at h2
  have h1 := of_decide_eq_true h1
  have h2 := of_decide_eq_false h2
  have ne := h.inv.ne hj
  refine ⟨?_, ?_, ?_⟩
  ·rw [h.ed_fr hi hj]
   refine decide_eq_false fun k => ?_
   have := sw_lt (i := (i : Int)) (a := atD 0 (invL b) j) (b := atD 0 (invL b) ((j : Int) + 1)) (by omega) fun e => by
    have e1 := h.pq (x := (j : Int)) (by omega) (by omega)
    have e2 := h.pq (x := (j : Int) + 1) (by omega) (by omega)
    rw [e.1] at e1
    rw [e.2] at e2
    omega
   omega
  ·rw [h.bg_bk hj hi]
   refine decide_eq_true (sw_lt h1 fun e => ?_)
   have e1 := h.qp (x := (i : Int)) (by omega) (by omega)
   have e2 := h.qp (x := (i : Int) + 1) (by omega) (by omega)
   rw [e.2] at e1
   rw [e.1] at e2
   omega
  ·refine ((h.bk hj).fr hi).ext ((h.fr hi).bk hj).2 fun x x0 x1 => ?_
   have a := VP.sw_in hi x0 x1
   rw [(h.bk hj).fr_at hi x0, h.bk_at hj a.1 a.2, (h.fr hi).bk_at hj x0 x1, h.fr_at hi x0]
 e := idL n
 D := revP n
 fl := flP
 co := coP
 ve := idL_VP n
 vD := rev_VP n
 vfl h := h.fl
 vco h := h.co
 Be {i} hi := by
  unfold bgP
  rw [idL_at (by omega) (by omega), idL_at (by omega) (by omega)]
  exact decide_eq_false (by omega)
 ED {i} hi := by
  unfold edP bgP
  rw [rev_inv (by omega) (by omega), rev_inv (by omega) (by omega)]
  exact decide_eq_true (by omega)
 isE {b} h k := by
  have hu := h.inv.up fun i hi => k i (by omega)
  refine h.ext (idL_len n) fun x x0 x1 => ?_
  have e := h.pq x0 x1
  rw [hu x x0 x1] at e
  rw [e, idL_at x0 x1]
 isD {b} h k := by
  have hu := h.inv.down fun i hi => k i (by omega)
  refine h.ext (rev_len n) fun x x0 x1 => ?_
  have e := h.pq (x := n - 1 - x) (by omega) (by omega)
  rw [hu _ (by omega) (by omega), show (n : Int) - 1 - (n - 1 - x) = x by omega] at e
  rw [e, rev_at x0 x1]
 Ebk {b i} h hi := by
  have hi : i + 1 < n := by omega
  rw [h.ed_bk hi, sw_r, sw_l]
  unfold edP bgP
  have := h.inv.ne hi
  by_cases k : atD 0 (invL b) ((i : Int) + 1) < atD 0 (invL b) (i : Int)
  ·rw [decide_eq_false (by omega), decide_eq_true k]; rfl
  ·rw [decide_eq_true (by omega), decide_eq_false k]; rfl
 bkbk {b i} h hi := by
  have hi : i + 1 < n := by omega
  refine ((h.bk hi).bk hi).ext h.2 fun x x0 x1 => ?_
  rw [(h.bk hi).bk_at hi x0 x1, h.bk_at hi x0 x1, sw_sw]
 letB {i} hi := by
  have hi : i + 1 < n := by omega
  rw [(idL_VP n).bg_fr hi, sw_r, sw_l, idL_at (by omega) (by omega), idL_at (by omega) (by omega)]
  exact decide_eq_true (by omega)
 letF {i} hi := by
  have hi : i + 1 < n := by omega
  have h := idL_VP n
  refine ((h.fr hi).fr hi).ext h.2 fun x x0 x1 => ?_
  rw [(h.fr hi).fr_at hi x0, h.fr_at hi (VP.sw_in hi x0 x1).1, sw_sw]
 letK {i} hi := by
  have hi : i + 1 < n := by omega
  have h := idL_VP n
  refine (h.bk hi).ext (h.fr hi).2 fun x x0 x1 => ?_
  have a := VP.sw_in hi x0 x1
  rw [h.bk_at hi x0 x1, h.fr_at hi x0, idL_at x0 x1, idL_at a.1 a.2]
 flB {a i} h hi := by
  unfold bgP
  rw [h.fl_at (by omega) (by omega), h.fl_at (by omega) (by omega), show (n : Int) - 1 - (((n - 1 - 1 - i : Nat) : Int) + 1) = i by omega, show (n : Int) - 1 - ((n - 1 - 1 - i : Nat) : Int) = i + 1 by omega]
  exact decide_eq_decide.2 (by omega)
 flE {a i} h hi := by
  unfold edP bgP
  rw [h.fl_inv (by omega) (by omega), h.fl_inv (by omega) (by omega), show (n : Int) - 1 - (((n - 1 - 1 - i : Nat) : Int) + 1) = i by omega, show (n : Int) - 1 - ((n - 1 - 1 - i : Nat) : Int) = i + 1 by omega]
  exact decide_eq_decide.2 (by omega)
 flfr {a i} h hi := by
  have hi : i + 1 < n := by omega
  have hj : n - 1 - 1 - i + 1 < n := by omega
  refine (h.fr hi).fl.ext (h.fl.fr hj).2 fun x x0 x1 => ?_
  have b := VP.sw_in hj x0 x1
  rw [(h.fr hi).fl_at x0 x1, h.fr_at hi (by omega), h.fl.fr_at hj x0, h.fl_at b.1 b.2, sw_rev (i := (i : Int)) (by omega)]
 flbk {a i} h hi := by
  have hi : i + 1 < n := by omega
  have hj : n - 1 - 1 - i + 1 < n := by omega
  refine (h.bk hi).fl.ext (h.fl.bk hj).2 fun x x0 x1 => ?_
  have b := h.rg (x := n - 1 - x) (by omega) (by omega)
  rw [(h.bk hi).fl_at x0 x1, h.bk_at hi (by omega) (by omega), h.fl.bk_at hj x0 x1, h.fl_at x0 x1, ← sw_rev (n := (n : Int)) (i := ((n - 1 - 1 - i : Nat) : Int)) (j := (i : Int)) (by omega)]
 flfl {a} h := by
  refine h.fl.fl.ext h.2 fun x x0 x1 => ?_
  rw [h.fl.fl_at x0 x1, h.fl_at (by omega) (by omega), show (n : Int) - 1 - (n - 1 - x) = x by omega]
  omega
 fle := by
  have h := idL_VP n
  refine h.fl.ext h.2 fun x x0 x1 => ?_
  rw [h.fl_at x0 x1, idL_at (by omega) (by omega), idL_at x0 x1]
  omega
 flD := by
  have h := rev_VP n
  refine h.fl.ext h.2 fun x x0 x1 => ?_
  rw [h.fl_at x0 x1, rev_at (by omega) (by omega), rev_at x0 x1]
  omega
 coB {a i} h hi := by
  have hi : i + 1 < n := by omega
  unfold edP bgP
  rw [h.co_at (by omega) (by omega), h.co_at (by omega) (by omega)]
  have := h.inv.ne hi
  by_cases k : atD 0 (invL a) ((i : Int) + 1) < atD 0 (invL a) (i : Int)
  ·rw [decide_eq_false (by omega), decide_eq_true k]; rfl
  ·rw [decide_eq_true (by omega), decide_eq_false k]; rfl
 cofr {a i} h hi := by
  have hi : i + 1 < n := by omega
  refine (h.co.fr hi).ext (h.bk hi).co.2 fun x x0 x1 => ?_
  have b := VP.sw_in hi x0 x1
  rw [h.co.fr_at hi x0, h.co_at b.1 b.2, (h.bk hi).co_at x0 x1, h.bk_inv hi, h.inv.fr_at hi x0]
 coD := by
  have h := rev_VP n
  refine h.co.ext (idL_len n) fun x x0 x1 => ?_
  rw [h.co_at x0 x1, rev_inv x0 x1, idL_at x0 x1]
  omega
 coe := by
  have h := idL_VP n
  refine h.co.ext (rev_len n) fun x x0 x1 => ?_
  rw [h.co_at x0 x1, id_inv x0 x1, rev_at x0 x1]
 coco {a} h := by
  refine h.co.co.ext h.fl.2 fun x x0 x1 => ?_
  rw [h.co.co_at x0 x1, h.co_inv x0 x1, h.fl_at x0 x1]
 frD {i} hi := by
  have hi : i + 1 < n := by omega
  have hj : n - 1 - 1 - i + 1 < n := by omega
  have h := rev_VP n
  refine (h.fr hj).ext (h.bk hi).2 fun x x0 x1 => ?_
  have b := VP.sw_in hj x0 x1
  rw [h.fr_at hj x0, rev_at b.1 b.2, h.bk_at hi x0 x1, rev_at x0 x1, sw_rev (i := (i : Int)) (by omega)]
end Go.Proofs.YtdeoogbiipodmaaGreat

namespace Go.Proofs.YtdeoogbiipodmaaGreat
set_option maxRecDepth 100000
def negC (w : List Int) : Nat := (w.filter fun x => decide (x < 0)).length
def isD (n : Nat) (p : List Int) : Bool := decide (p = revP n)
def isE (n : Nat) (p : List Int) : Bool := decide (p = idL n)
/-- the normal form that is read off the end of a word's list: half twists, and the factors that are neither nothing nor a half twist. -/
def formY (n : Nat) (w : List Int) (Y : List (List Int)) : Int × List (List Int) := (((Y.filter (isD n)).length : Int) - negC w, Y.filter fun p => !(isE n p) && !(isD n p))
def WordOk (n : Nat) (w : List Int) : Prop := ∀ x ∈ w, LetOk (n - 1) x
theorem word_vs {n : Nat} {w : List Int} (h : WordOk n w) : Vs (garN n).toGar (facL (garN n) [] w) := facL_vs (T := garN n) h vs_nil
theorem nfY_ex (n : Nat) (w : List Int) : ∃ Y, WordOk n w → NfW (garN n) w Y := by
 by_cases h : WordOk n w
 ·obtain ⟨Y, h1, h2⟩ := norm_ex _ (word_vs h)
  exact ⟨Y, fun _ => ⟨h1, h2⟩⟩
 ·exact ⟨[], fun k => absurd k h⟩
noncomputable def nfY (n : Nat) (w : List Int) : List (List Int) := Classical.choose (nfY_ex n w)
theorem nfY_ok {n : Nat} {w : List Int} (h : WordOk n w) : NfW (garN n) w (nfY n w) := Classical.choose_spec (nfY_ex n w) h
noncomputable def formW (n : Nat) (w : List Int) : Int × List (List Int) := formY n w (nfY n w)
theorem nfY_eq {n : Nat} {w : List Int} (h : WordOk n w) {Y : List (List Int)} (k : NfW (garN n) w Y) : nfY n w = Y := norm_one (word_vs h) (nfY_ok h).1 (nfY_ok h).2 k.1 k.2
/-- what the program comes to is the normal form. -/
theorem formW_eq {n : Nat} {w : List Int} (h : WordOk n w) {Y : List (List Int)} (k : NfW (garN n) w Y) : formW n w = formY n w Y := by unfold formW; rw [nfY_eq h k]
theorem negC_app (u v : List Int) : negC (u ++ v) = negC u + negC v := by unfold negC; rw [List.filter_append, List.length_append]
theorem e_ne_D {n : Nat} (hn : 2 ≤ n) : idL n ≠ revP n := fun h => by
 have a := idL_at (n := n) (j := 0) (by omega) (by omega)
 have b := rev_at (n := n) (x := 0) (by omega) (by omega)
 rw [h] at a
 omega
section
variable {S : Type} {T : GarT S}
end
end Go.Proofs.YtdeoogbiipodmaaGreat

namespace Go.Proofs.YtdeoogbiipodmaaGreat
set_option maxRecDepth 100000
section
variable {S : Type} {G : Gar S}
/-- a letter is moved at a place. -/
theorem pull_at : ∀ {X : List S} {j i : Nat} {a b : S}, X[j]? = some a → X[j + 1]? = some b → i < G.N → G.B b i = true → G.E a i = false → Pull G X ((X.set j (G.bk a i)).set (j + 1) (G.fr b i))
 | x :: X, 0, i, a, b, h1, h2, h3, h4, h5 => by
   cases X with
   | nil => simp at h2
   | cons y X =>
     simp only [List.getElem?_cons_zero, Option.some.injEq, Nat.zero_add, List.getElem?_cons_succ] at h1 h2
     subst h1; subst h2
     exact .here _ _ _ i h3 h4 h5
 | x :: X, j + 1, i, a, b, h1, h2, h3, h4, h5 => by
   rw [List.getElem?_cons_succ] at h1 h2
   exact .there x (pull_at h1 h2 h3 h4 h5)
 | [], j, i, a, b, h1, _, _, _, _ => by simp at h1
/-- nothing can be moved between two neighbours. -/
def PairOk (G : Gar S) (a b : S) : Prop := ∀ i, i < G.N → G.B b i = true → G.E a i = true
theorem noPull_of : ∀ {X : List S}, (∀ j a b, X[j]? = some a → X[j + 1]? = some b → PairOk G a b) → NoPull G X
 | [], _, Y, p => by cases p
 | x :: X, h, Y, p => by
   cases p with
   | here _ b R i h1 h2 h3 =>
     have := h 0 x b rfl rfl i h1 h2
     rw [h3] at this; cases this
   | there _ p => exact noPull_of (X := X) (fun j a b e1 e2 => h (j + 1) a b (by simpa using e1) (by simpa using e2)) _ p
end
/-- the first place at which two simple braids have a letter to move, or none. -/
def folP (n : Nat) (a b : List Int) : Option Nat := (List.range (n - 1)).find? fun i => bgP b i && !(edP a i)
theorem fol_none {n : Nat} {a b : List Int} (h : folP n a b = none) : PairOk (garN n).toGar a b := by
 intro i hi hb
 unfold folP at h
 rw [List.find?_eq_none] at h
 have hi2 : i < n - 1 := hi
 have := h i (List.mem_range.2 hi2)
 have hb2 : bgP b i = true := hb
 rw [hb2] at this
 simp at this
 exact this
theorem fol_some {n : Nat} {a b : List Int} {i : Nat} (h : folP n a b = some i) : i < n - 1 ∧ bgP b i = true ∧ edP a i = false := by
 unfold folP at h
 have h1 := List.find?_some h
 have h2 := List.mem_of_find?_eq_some h
 rw [Bool.and_eq_true, Bool.not_eq_true'] at h1
 exact ⟨List.mem_range.1 h2, h1.1, h1.2⟩
end Go.Proofs.YtdeoogbiipodmaaGreat
