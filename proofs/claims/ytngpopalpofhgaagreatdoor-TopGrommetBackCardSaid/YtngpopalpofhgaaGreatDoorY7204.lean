/- Contracts and plain facts that the claim uses (ShP HrP KnQ PtB BsG BsH BsI BsJ BsK BsL). Conditions: as each one states. -/
import Derived.RangeFuncNested
import Derived.RangeFuncBound
import Derived.RangeFuncCalls
import Derived.RangeFuncLeaves
import Derived.RangeFuncFrom
import Derived.Shelf.Abstract
import Derived.Shelf.RegionOpen
import Derived.WalkKit
import Derived.OwnWalkIn
import Derived.TacticsInMore
import Derived.LoopNIn
import Derived.LoopIn
import Derived.Test.YtngpopalpofhgaaGreatDoorProg
import Derived.WalkSpells
import Derived.Maps.AppendAt
import Derived.Deep.Quiet
import Derived.Maps.Own
import Derived.Maps.OwnSet
import Derived.Maps.Views
import Derived.WalkLawsBesides
import Derived.Laws.EntriesVeiled
import Derived.Deep.QuietTactic
import Derived.BigQuiet
import Derived.Shelf.Strings.Trim
import Derived.Shelf.Strings.SlTrimAscii
import Derived.Shelf.Strings.Repeat
import Derived.Shelf.Strings.OnBuilder
import Derived.Shelf.Strconv.Itoa1
import Derived.Shelf.Strconv.Itoa3
import Derived.Shelf.LaysM
import Derived.Ground.Names2Prog
import Derived.Lib.OthersKept
import Derived.Deep.RegionHeld3
import Derived.Deep.AppendLies
import Derived.Deep.RegionHeldLaw
import Derived.Deep.RegionLaw
import Derived.StillTail
import Derived.Laws.Tables
import Derived.IntWalk
import Derived.Laws.CopyOwn
import Derived.BigRegion
import Derived.ChangeAlike
import Derived.Shelf.Bits.Mul64
import Derived.Lib.ItoaLen
import Derived.Lib.ItoaMem
import Derived.Sort.LoopGhostIn
import Derived.Maps.RangeWalk
import Derived.Maps.Ext
import Derived.Sort.QuietThIn
import Derived.Deep.LoopGhost
import Derived.Lib.Split
import Derived.Lib.AtoiAll
import Derived.Lib.AppendIntMem
import Derived.Lib.SmallJoins
import Derived.LaidSub
import Derived.Lib.LaidTab
import Derived.Lib.AtoiErrMem
import Derived.Stop.LaidErr
import Derived.ReadAgain
import Derived.ChangeSlices
import Derived.OpenShut
import Derived.ProofKit
import Derived.Deep.DeepHandedRow
import Derived.Deep.SlicePairs
import Derived.Laws.IdiomStrings
import Derived.Lib.AppendZeros
import Derived.Test.YtngpopalpofhgaaGreatDoorXz01
import Derived.Test.YtngpopalpofhgaaGreatDoorXz02
import Derived.Test.YtngpopalpofhgaaGreatDoorXz03
import Derived.Test.YtngpopalpofhgaaGreatDoorXz04
import Derived.Test.YtngpopalpofhgaaGreatDoorXz05
import Derived.Test.YtngpopalpofhgaaGreatDoorXz06
import Derived.Test.YtngpopalpofhgaaGreatDoorXz07
import Derived.Test.YtngpopalpofhgaaGreatDoorXz08
import Derived.Test.YtngpopalpofhgaaGreatDoorXz09
import Derived.Test.YtngpopalpofhgaaGreatDoorY7201
import Derived.Test.YtngpopalpofhgaaGreatDoorY7202
import Derived.Test.YtngpopalpofhgaaGreatDoorY7203
set_option linter.all false

namespace Go.Proofs.YtngpopalpofhgaaGreatDoor
set_option maxRecDepth 100000
/-- carriers in the same slots: c of the first ones stands where τ c of the other ones does. -/
structure Ren (l l' : List Int) (τ : Int → Int) : Prop where
 len : l'.length = l.length
 at_ : ∀ c : Int, 0 ≤ c → c < l.length → (0 ≤ τ c ∧ τ c < l.length) ∧ atD 0 l' (τ c) = atD 0 l c
 mem : ∀ s, s ∈ l' → s ∈ l
theorem Ren.inj {l l' : List Int} {τ : Int → Int} (h : Ren l l' τ) (hn : l.Nodup) {a b : Int} (a0 : 0 ≤ a) (a1 : a < l.length) (b0 : 0 ≤ b) (b1 : b < l.length) (e : τ a = τ b) : a = b := by
 have h1 := (h.at_ a a0 a1).2
 have h2 := (h.at_ b b0 b1).2
 rw [e, h2] at h1
 obtain ⟨i, rfl⟩ : ∃ i : Nat, a = i := ⟨a.toNat, by omega⟩
 obtain ⟨j, rfl⟩ : ∃ j : Nat, b = j := ⟨b.toNat, by omega⟩
 rcases Nat.lt_trichotomy i j with hij | hij | hij
 ·exact absurd h1 (by first | exact nodup_ne hn hij (by omega) | exact (nodup_ne hn hij (by omega)).symm)
 ·rw [hij]
 ·exact absurd h1 (by first | exact nodup_ne hn hij (by omega) | exact (nodup_ne hn hij (by omega)).symm)
theorem Ren.later {m : MacV} {l l' : List Int} {τ : Int → Int} (h : Ren l l' τ) (j : Nat) : Ren (atL m l j) (atL m l' j) τ := by
 have e : ∀ L : List Int, (atL m L j).length = L.length := fun L => by unfold atL; rw [List.length_map]
 refine ⟨by rw [e, e, h.len], fun c c0 c1 => ?_, fun s hs => ?_⟩
 ·rw [e] at c1 ⊢
  obtain ⟨⟨a, b⟩, d⟩ := h.at_ c c0 c1
  refine ⟨⟨a, b⟩, ?_⟩
  have hl := h.len
  obtain ⟨i, hi⟩ : ∃ i : Nat, c = i := ⟨c.toNat, by omega⟩
  obtain ⟨k, hk⟩ : ∃ k : Nat, τ c = k := ⟨(τ c).toNat, by omega⟩
  rw [hk] at d b ⊢
  subst hi
  unfold atL
  rw [atD_map2 (by omega), atD_map2 (by omega), d]
 ·unfold atL at hs ⊢
  obtain ⟨y, hy, rfl⟩ := List.mem_map.1 hs
  exact List.mem_map.2 ⟨y, h.mem y hy, rfl⟩
section
variable {m : MacV} {l l' : List Int} {τ : Int → Int} {n : Int}
end
end Go.Proofs.YtngpopalpofhgaaGreatDoor

namespace Go.Proofs.YtngpopalpofhgaaGreatDoor
set_option maxRecDepth 100000
theorem wordOk_rng {k : Nat} {w : List Int} (h : LetRng k w) : WordOk k w := fun x hx => by
 obtain ⟨a, b⟩ := h x hx
 unfold LetOk
 unfold absI at a b
 refine ⟨fun e => by subst e; simp at a, ?_⟩
 split at a <;> split at b <;> split <;> omega
section
variable {m : MacV} {l : List Int}
end
theorem neg_rev (w : List Int) : w.reverse.map (fun x => -x) = invW w := by unfold invW; rw [List.map_reverse]
/-- the word of passes and then of those back is the braid without crossings. -/
theorem back_form {n : Nat} {l : List PassV} (h : ∀ p ∈ l, passE n p = 0) (hr : LetRng n (lettersAll l)) : lettersAll (backL l) = invW (lettersAll l) ∧ formW n (lettersAll l ++ lettersAll (backL l)) = (0, []) ∧ (lettersAll l ++ lettersAll (backL l)).foldl pushO [] = [] := by
 have e : lettersAll (backL l) = invW (lettersAll l) := by rw [backL_word h, neg_rev]
 refine ⟨e, ?_, ?_⟩
 ·rw [e]; exact form_back (wordOk_rng hr)
 ·rw [e]; exact red_undo _ [] trivial
section
variable {p seen : List Int}
end
end Go.Proofs.YtngpopalpofhgaaGreatDoor

namespace Go.Proofs.YtngpopalpofhgaaGreatDoor
open Go.RowKit
set_option maxHeartbeats 1000000
set_option maxRecDepth 100000

theorem wordE_fit {n : Int} {l : List Int} (h1 : 1 ≤ n) (h2 : n ≤ 12) (hl : l.length ≤ 200) (hf : ∀ x ∈ l, 1 ≤ absI x ∧ absI x < n) : wordE n l = 0 := by
 rw [wordE_any (by unfold strandsE; rw [if_neg (by omega)]) hl]
 rw [if_neg]
 intro h
 obtain ⟨x, hx, hb⟩ := List.any_eq_true.1 h
 obtain ⟨a, b⟩ := hf x hx
 unfold outB at hb
 unfold absI at a b
 simp at hb
 split at a <;> split at b <;> omega
end Go.Proofs.YtngpopalpofhgaaGreatDoor

namespace Go.Proofs.YtngpopalpofhgaaGreatDoor
open Go.RowKit
set_option maxHeartbeats 8000000
set_option maxRecDepth 100000
theorem isSl {α : Type} {c : α → Value} {sz B : Nat} {e : TypeId} {w0 w : World} {v : Value} {l : List α} {L : List Pc} (h : SL B w0 w L) (i : Nat) (hi : L[i]? = some (pOwn c sz e v l)) : ∃ a n c, v = .slice a n c := by
 obtain ⟨a, cap, e1, _⟩ := h.slice i hi
 exact ⟨a, _, cap, e1⟩
end Go.Proofs.YtngpopalpofhgaaGreatDoor

namespace Go.Proofs.YtngpopalpofhgaaGreatDoor
open Go.RowKit
set_option maxHeartbeats 8000000
set_option maxRecDepth 100000
theorem A_form : Aggr Tryz.prog 153 := ⟨_, Tryz.underlying153, rfl⟩
/-- a value that is a normal form. -/
def FormR (w : World) (n : Nat) (v : Value) (f : Int × List (List Int)) : Prop := ∃ a c H, v = .agg #[.int .i64 f.1, .slice a f.2.length c] ∧ Reps cSl 1 w a c H ∧ RowsR w n H f.2
theorem FormR.below {w w' : World} {n : Nat} {v : Value} {f : Int × List (List Int)} (h : FormR w n v f) (hb : Below w.heap.size w w') : FormR w' n v f := by
 obtain ⟨a, c, H, e, r, q⟩ := h
 exact ⟨a, c, H, e, r.below hb, q.below hb⟩
abbrev zForm : Obj := .cells #[.int .i64 0, .slice none 0 0] 153
noncomputable abbrev facW (n : Nat) (W : List Int) : List (List Int) := facL (garN n) [] W
theorem facW_vs {n : Nat} {W : List Int} (h : WordOk n W) (k : Nat) : Vs (garN n).toGar (facW n (W.take k)) := word_vs fun x hx => h x (List.mem_of_mem_take hx)
theorem facW_len (n : Nat) (W : List Int) {k : Nat} (h : k ≤ W.length) : (facW n (W.take k)).length = k := by
 show (facL _ _ _).length = k
 rw [fac_len, List.length_take]; simp; omega
theorem normal_one (ad : Option Addr) (cap : Nat) (w : World) : Calls Tryz.prog 118 #[.int .i64 1, .slice ad 0 cap] w fun r w' => ∃ v, r = .returned v ∧ FormR w' 1 v (0, []) ∧ Below w.heap.size w w' := by
 have hS := ((SL.nil w).box zForm).box zForm
 simp only [World.size_alloc] at hS
 obtain ⟨B, hB⟩ : ∃ B, B = w.heap.size := ⟨_, rfl⟩
 obtain ⟨w1, hw1⟩ : ∃ w1, w1 = (w.alloc zForm).alloc zForm := ⟨_, rfl⟩
 rw [← hw1, ← hB] at hS
 have q0 := (hS.blk 0 rfl).1
 go_enter Tryz.func118, Tryz.ntmps118
 go_wp2_with fail
 rw [← hB, ← hw1]
 clear hw1 hB
 go_wp2_with (first | (with_reducible refine wpList_ldS (n := 2) (us := #[.int .i64 0, .slice none 0 0]) A_form kR wU wU (by assumption) wU wU ?_) | ((with_reducible refine wpList_stoR (us := #[.int .i64 0, .slice none 0 0]) 1 wU wU (hS) wU kR wU wU ?_); intro w3 hS3))
 refine bodyPost_ret (results_cell rfl rfl A_form kR (hS.blk 1 rfl).1) rfl ⟨_, rfl, ⟨none, 0, [], rfl, ?_, ⟨rfl, fun k hk => by cases hk⟩⟩, hS.b⟩
 obtain ⟨a, c, e, r⟩ := (hS.nilS (α := SlH) (c := cSl) (sz := 1) (e := 211) cSlS).slice 0 rfl
 cases e
 exact r
theorem SL.dropA {B : Nat} {w0 w : World} {L : List Pc} : ∀ {A : List Pc}, SL B w0 w (A ++ L) → SL B w0 w L
 | [], h => h
 | _ :: A, h => SL.dropA (A := A) (SL.tail h)
/-- new rows in the place of old ones. -/
theorem SL.renew {B : Nat} {w0 w : World} {v o d b : Pc} {R1 R2 : List Pc} (h : SL B w0 w (([v] ++ R2) ++ ([o, d, b] ++ R1))) : SL B w0 w ([v, d, b] ++ R2) := by
 have h1 : SL B w0 w ([o] ++ ([d, b] ++ (R1 ++ ([v] ++ R2)))) := by have := h.comm; simpa only [List.append_assoc, List.cons_append, List.nil_append] using this
 have h2 : SL B w0 w (([d, b] ++ R1) ++ ([v] ++ R2)) := by rw [List.append_assoc]; exact SL.tail h1
 have h4 : SL B w0 w ((([v] ++ R2) ++ [d, b]) ++ R1) := by have := h2.comm; simpa only [List.append_assoc, List.cons_append, List.nil_append] using this
 have h3 := (SL.dropA h4.comm).comm
 exact SL.pickA (K := [d, b, v]) (M := R2) (by simpa using h3) [2, 0, 1] (by decide) (fun i hi => by simp at hi; simp; omega) [v, d, b] rfl
/-- two early blocks put aside, and taken back. -/
theorem SL.rebase {B : Nat} {w0 w : World} {o1 o2 : Obj} {R : List Pc} (h : SL B w0 w ([pBlk (B + 1) o1, pBlk B o2] ++ R)) : SL (B + 2) w w R := by
 have hz := (h.blk 0 rfl).2.2
 obtain ⟨hb, _, f, h1, h2⟩ := h
 have f0 : f 0 = some (B + 1) := (h1 0 _ rfl).1.1
 have f1 : f 1 = some B := (h1 1 _ rfl).1.1
 refine ⟨Below.refl _ _, by omega, fun i => f (i + 2), fun i p hi => ?_, fun i j k hij hj e => ?_⟩
 ·have h3 := h1 (i + 2) p (by simpa using hi)
  refine ⟨h3.1, fun k hk => ?_⟩
  have h4 := h3.2 k hk
  have hl : i < R.length := by
   rcases Nat.lt_or_ge i R.length with h5 | h5
   ·exact h5
   ·rw [List.getElem?_eq_none h5] at hi; cases hi
  have h6 := h2 0 (i + 2) (B + 1) (by omega) (by simp; omega) f0
  have h7 := h2 1 (i + 2) B (by omega) (by simp; omega) f1
  have h8 : k ≠ B + 1 := fun e => h6 (by rw [← e]; exact hk)
  have h9 : k ≠ B := fun e => h7 (by rw [← e]; exact hk)
  omega
 ·exact h2 (i + 2) (j + 2) k (by omega) (by simp; omega) e
theorem SL.around {B : Nat} {w0 w w' : World} {o1 o2 : Obj} {R L : List Pc} (h : SL B w0 w ([pBlk (B + 1) o1, pBlk B o2] ++ R)) (hk : SL (B + 2) w w' L) : SL B w0 w' ([pBlk (B + 1) o1, pBlk B o2] ++ L) := by
 have q0 := (h.blk 0 rfl).1
 have q1 := (h.blk 1 rfl).1
 have hz := (h.blk 0 rfl).2.2
 obtain ⟨kb, kz, g, g1, g2⟩ := hk
 refine ⟨h.b.trans (kb.mono (by omega)), by omega, fun i => if i = 0 then some (B + 1) else if i = 1 then some B else g (i - 2), fun i p hi => ?_, fun i j k hij hj e e2 => ?_⟩
 ·rcases i with _ | _ | i
  ·simp at hi; subst hi
   exact ⟨⟨rfl, by rw [kb.block _ (by omega)]; exact q0⟩, fun k hk => by cases hk; omega⟩
  ·simp at hi; subst hi
   exact ⟨⟨rfl, by rw [kb.block _ (by omega)]; exact q1⟩, fun k hk => by cases hk; omega⟩
  ·have h3 := g1 i p (by simpa using hi)
   exact ⟨h3.1, fun k hk => by have := h3.2 k hk; omega⟩
 ·have hlen : ∀ i k, i < L.length → g i = some k → B + 2 ≤ k := fun i k hi e => (g1 i L[i] (List.getElem?_eq_getElem hi)).2 k e
  simp only [List.length_append, List.length_cons, List.length_nil] at hj
  rcases i with _ | _ | i <;> rcases j with _ | _ | j
  ·omega
  ·cases e; cases e2
  ·cases e; have := hlen j _ (by omega) e2; omega
  ·omega
  ·omega
  ·cases e; have := hlen j _ (by omega) e2; omega
  ·omega
  ·omega
  ·exact g2 i j k (by omega) (by omega) e e2
/-- the rows that are kept, with their handles. -/
def selH (g : List Int → Bool) (H : List SlH) (X : List (List Int)) (j : Nat) : List SlH := (((H.zip X).take j).filter fun q => g q.2).map Prod.fst
theorem selH_succ {g : List Int → Bool} {H : List SlH} {X : List (List Int)} {j : Nat} {x : SlH} (hH : H.length = X.length) (hj : j < X.length) (e : atD ((none, 0, 0) : SlH) H (j : Int) = x) : selH g H X (j + 1) = selH g H X j ++ (if g (nth X j) then [x] else []) := by
 have h1 : j < H.length := by omega
 have h2 : j < (H.zip X).length := by rw [List.length_zip]; omega
 have e1 : (H.zip X)[j] = (x, nth X j) := by
  rw [List.getElem_zip]
  refine Prod.ext ?_ ?_
  ·rw [← e]; simp [atD, h1]
  ·simp [nth, atD, hj]
 unfold selH
 rw [List.take_succ_eq_append_getElem h2, e1, List.filter_append, List.map_append]
 congr 1
 cases hg : g (nth X j) <;> simp [hg]
theorem selH_len {g : List Int → Bool} {H : List SlH} {X : List (List Int)} (j : Nat) : (selH g H X j).length ≤ j := by
 unfold selH
 rw [List.length_map]
 refine Nat.le_trans (List.length_filter_le _ _) ?_
 rw [List.length_take]; omega
theorem filt_snd (g : List Int → Bool) : ∀ (H : List SlH) (X : List (List Int)), H.length = X.length → (((H.zip X).filter fun q => g q.2).map Prod.snd) = X.filter g
 | [], [], _ => rfl
 | h :: H, x :: X, e => by
   have ih := filt_snd g H X (by simpa using e)
   rw [List.zip_cons_cons, List.filter_cons, List.filter_cons]
   cases hg : g x
   · simpa using ih
   · simp [ih]
 | [], x :: X, e => by simp at e
 | h :: H, [], e => by simp at e
theorem rowsR_zip {w : World} {n : Nat} {H : List SlH} {X : List (List Int)} (h : RowsR w n H X) : ∀ q ∈ H.zip X, ∃ a c, q.1 = (a, n, c) ∧ Ints w a c q.2 := fun q hq => by
 obtain ⟨i, hi, rfl⟩ := List.mem_iff_getElem.1 hq
 have h1 : i < X.length := by rw [List.length_zip] at hi; omega
 have h2 : i < H.length := by rw [List.length_zip] at hi; omega
 obtain ⟨a, c, e, r⟩ := h.2 i h1
 refine ⟨a, c, ?_, ?_⟩
 ·rw [List.getElem_zip, ← e]; simp [atD, h2]
 ·rw [List.getElem_zip]; simpa [nth, atD, h1] using r
theorem rowsR_of {w : World} {n : Nat} {Z : List (SlH × List Int)} (h : ∀ q ∈ Z, ∃ a c, q.1 = (a, n, c) ∧ Ints w a c q.2) : RowsR w n (Z.map Prod.fst) (Z.map Prod.snd) := ⟨by simp, fun k hk => by
 have hk1 : k < Z.length := by simpa using hk
 obtain ⟨a, c, e, r⟩ := h Z[k] (List.getElem_mem hk1)
 exact ⟨a, c, by rw [← e]; simp [atD, hk1], by simpa [nth, atD, hk1] using r⟩⟩
theorem RowsR.sel {w : World} {n : Nat} {H : List SlH} {X : List (List Int)} (h : RowsR w n H X) (g : List Int → Bool) : RowsR w n (selH g H X X.length) (X.filter g) := by
 have h1 := rowsR_zip h
 have h2 : (H.zip X).take X.length = H.zip X := List.take_of_length_le (by rw [List.length_zip]; omega)
 have h3 := rowsR_of (Z := (H.zip X).filter fun q => g q.2) (fun q hq => h1 q (List.mem_filter.1 hq).1)
 rw [filt_snd g H X h.1] at h3
 unfold selH
 rw [h2]
 exact h3
theorem sto_slsV (v : Value) (hv : ∃ a n c, v = .slice a n c) (w : World) (p : Addr) (h1 : (w.cell? p).isSome = true) (h2 : w.frozen? p = false) : (Instr.storeAt 29 (.pointer (some p)) v).run Tryz.prog w = .ok () (w.setCell p v) := by
 obtain ⟨a, n, c, rfl⟩ := hv
 obtain ⟨u, hu⟩ := Option.isSome_iff_exists.1 h1
 simp [go_sem, hu, h2]
/-- what is left of a list in which nothing can be pulled. -/
def notED (n : Nat) (p : List Int) : Bool := !(isE n p) && !(isD n p)
theorem fac_pos {n : Nat} {W : List Int} {k : Nat} {x : Int} (h : k < W.length) (e : atD 0 W k = x) (hx : 0 < x) : facW n (W.take (k + 1)) = facW n (W.take k) ++ [swpL (idL n) (ltrI x)] := by
 show facL _ _ _ = _
 rw [fac_take n h, e]
 unfold facG
 rw [if_pos hx]; rfl
theorem fac_neg {n : Nat} {W : List Int} {k : Nat} {x : Int} (h : k < W.length) (e : atD 0 W k = x) (hx : ¬ 0 < x) : facW n (W.take (k + 1)) = (facW n (W.take k)).map flP ++ [bkP (revP n) (ltrI x)] := by
 show facL _ _ _ = _
 rw [fac_take n h, e]
 unfold facG
 rw [if_neg hx]; rfl
theorem normal_any (n m : Nat) (ad : Option Addr) (cap : Nat) (W : List Int) (w : World) (hS : Ints w ad cap W) (hok : WordOk n W) (hm : W.length = m) (hn2 : 2 ≤ n) (hn : n ≤ 1000) (hm1 : m ≤ 1000) :
  Calls Tryz.prog 118 #[.int .i64 n, .slice ad m cap] w fun r w' => ∃ v, r = .returned v ∧ FormR w' n v (formW n W) ∧ Below w.heap.size w w' := by
 have hcap := hS.le
 have hmx := hS.max
 rw [hm] at hcap
 have hFL := fun k (hk : k ≤ m) => facW_len n W (k := k) (by omega)
 have hFV := fun k => facW_vs hok k
 have hLT := fun (k : Nat) (hk : k < m) => hok (atD 0 W k) (atD_mem (by omega))
 have hFP := fun (k : Nat) (hk : k < m) x e hx => fac_pos (n := n) (W := W) (k := k) (x := x) (by omega) e hx
 have hFN := fun (k : Nat) (hk : k < m) x e hx => fac_neg (n := n) (W := W) (k := k) (x := x) (by omega) e hx
 have hNG := fun (k : Nat) (hk : k < m) => neg_take (w := W) (k := k) (by omega)
 have hNL : ∀ k, negC (W.take k) ≤ 1000 := fun k => by
  unfold negC
  have := List.length_filter_le (fun x => decide (x < 0)) (W.take k)
  rw [List.length_take] at this
  omega
 have hZ : facW n (W.take 0) = [] ∧ negC (W.take 0) = 0 := ⟨rfl, rfl⟩
 have hFin : ∀ Y, NfW (garN n) W Y → formW n W = formY n W Y := fun Y h => formW_eq hok h
 obtain ⟨X, hX⟩ : ∃ X : Nat → List (List Int), ∀ k, X k = facW n (W.take k) := ⟨_, fun _ => rfl⟩
 obtain ⟨C, hC⟩ : ∃ C : Nat → Nat, ∀ k, C k = negC (W.take k) := ⟨_, fun _ => rfl⟩
 simp only [← hX] at hFL hFV hFP hFN hZ
 simp only [← hC] at hNG hNL hZ
 have HFL := hid hFL; have HFV := hid hFV; have HFP := hid hFP; have HFN := hid hFN; have HNG := hid hNG; have HNL := hid hNL; have HFI := hid hFin; have HLT := hid hLT
 have HXE := hid (hX m); have HCE := hid (hC m); have HW := hid hm
 have HS := hid hS; have HML : Hid (W.length = m) := hid hm
 have hSL := (((SL.nil w).box zForm).box zForm).nilS (α := SlH) (e := 211) cSlS
 simp only [World.size_alloc] at hSL
 have dn : decide ((n : Int) = 1) = false := decide_eq_false (by omega)
 obtain ⟨B, hB⟩ : ∃ B, B = w.heap.size := ⟨_, rfl⟩
 obtain ⟨w1, hw1⟩ : ∃ w1, w1 = (w.alloc zForm).alloc zForm := ⟨_, rfl⟩
 rw [← hw1, ← hB] at hSL
 obtain ⟨D, hD⟩ : ∃ D, D = B + 1 := ⟨_, rfl⟩
 rw [← hD] at hSL
 clear hFL hFV hFP hFN hNG hNL hFin hX hC hS hLT hok
 go_enter Tryz.func118, Tryz.ntmps118
 go_wp2_with fail
 rw [← hB, ← hw1]
 simp only [← hD]
 have HB := hid hB; have HD := hid hD
 clear hw1 hD hB
 go_wp2_with fail
 go_loopw [17, 8, 9, 6] (fun iv _ _ ov wr => ∃ (k : Nat) (H : List SlH), k ≤ m ∧ iv = .int .i64 k ∧ (k = 0 → ov = .slice none 0 0) ∧ H.length = k ∧ SL B w wr ([pOwn cSl 1 211 ov H, pBlk D (.cells #[.int .i64 (-(C k : Int)), .slice none 0 0] 153), pBlk B zForm] ++ (mxQ H (X k)).map inP)) (fun iv _ _ _ _ => m - (intOf iv).toNat)
 case atStart => exact ⟨0, [], by omega, rfl, fun _ => rfl, rfl, by rw [hZ.1, hZ.2]; exact hSL⟩
 case round =>
  clear hSL hZ
  obtain ⟨k, H, hk, rfl, h00, hH, hSr⟩ := hrel
  by_cases hlt : k < m
  ·clear h00
   have hWr := HS.out.below (by rw [← HB.out]; exact hSr.b)
   obtain ⟨x, hx⟩ : ∃ x, atD 0 W k = x := ⟨_, rfl⟩
   have hl := HLT.out k hlt
   rw [hx] at hl
   obtain ⟨p, hp⟩ : ∃ p : Nat, p = ltrI x := ⟨_, rfl⟩
   have hpn : p + 1 < n := by have := ltrI_lt hl; omega
   have hxr : x ≠ 0 ∧ absI x = (p : Int) + 1 ∧ -1000 ≤ x ∧ x ≤ 1000 := by
    have h1 := hl.1
    have h2 := hl.2
    unfold ltrI at hp
    unfold absI
    split at h2 <;> split at hp <;> split <;> omega
   obtain ⟨hx1, hab, hx2, hx3⟩ := hxr
   have HAB := hid (fun w => babs_any x w (by omega) (by omega))
   rw [hab] at HAB
   have hng := HNG.out k hlt
   rw [hx] at hng
   have HX := hid hx
   have hwp : IntKind.i64.wrap ((p : Int) + 1 - 1) = p := by rw [Int.add_sub_cancel]; exact IntWalk.i64_in _ (by omega)
   have HXL := hid (HFL.out k (by omega)); have HXV := hid (HFV.out k); have hH1 : H.length ≤ 1000 := by omega
   have hkW : (k : Int) < (W.length : Int) := by omega
   have HH := hid hH
   by_cases hx0 : 0 < x
   ·have dx : decide (0 < x) = true := decide_eq_true hx0
    have HFK := hid (HFP.out k hlt x hx hx0)
    rw [← hp] at HFK
    rw [if_neg (by omega), Nat.add_zero] at hng
    have HNK := hid hng
    clear hx hl hp hab hng hx0 hx1 hx2 hx3 hH
    go_wp2_with ((with_reducible refine wpList_idxN _ 0 E_ints F_int cInt1 wU wU (hWr) (HML.out) oD oD (fun _ => wU) (fun _ => ?_)); rw [HX.out])
    refine (HAB.out _).mono ?_
    rintro e w2 ⟨rfl, rfl⟩
    go_wp2_with fail
    refine (bidentity_any n _ hn).mono ?_
    rintro e w2 ⟨v2, rfl, ho, b2⟩
    have hS2 := hSr.call (SL.ofOwn ho b2)
    obtain ⟨a2, c2, hv2, hr2⟩ := hS2.slice (c := cInt) 0 rfl
    have hil := idL_len n
    rw [hil] at hv2
    subst hv2
    have HC := hid (fronted_any a2 c2 (idL n) p w2 hr2 (by rw [hil]; exact hpn) (by rw [hil]; exact hn))
    rw [hil] at HC
    clear ho b2 hSr hr2 hil
    go_wp2_with fail
    refine HC.out.mono ?_
    rintro e w3 ⟨v3, rfl, ho, b3⟩
    have hS3 := (hS2.call (SL.ofOwn ho b3)).comm (K := [pOwn cInt 1 3 v3 (swpL (idL n) p)])
    have hS4 := (SL.tail hS3).comm
    obtain ⟨a3, c3, hv3, hr3⟩ := hS4.slice (c := cInt) 0 rfl
    rw [swp_length, idL_len] at hv3
    subst hv3
    clear ho b3 hS2 hS3 HC hr3 hpn
    simp only [List.cons_append, List.nil_append] at hS4
    go_wp2_with ((with_reducible refine wpList_pushL (y := ((a3, n, c3) : SlH)) 1 E_smps wU wU (hS4) wU cSlO ⟨rfl, rfl⟩ (by first | with_unfolding_all rfl | simp) wU (by first | omega | (simp; omega)) (by first | omega | (simp; omega)) ?_); intro v4 w4 hS5)
    have hS6 := hS5.comm (K := [pOwn cInt 1 3 (.slice a3 n c3) (swpL (idL n) p)])
    exact ⟨⟨k + 1, H ++ [(a3, n, c3)], by omega, by go_num, fun e => by omega, by rw [List.length_append, HH.out]; rfl, by
     rw [HFK.out, HNK.out, mxQ_snoc (by rw [HH.out, HXL.out]), List.map_append]
     exact hS6⟩, by simp [intOf]; omega⟩
   ·have dx : decide (0 < x) = false := decide_eq_false hx0
    have HFK := hid (HFN.out k hlt x hx (by omega))
    rw [← hp] at HFK
    rw [if_pos (by omega)] at hng
    have HNK := hid hng
    have hCk := HNL.out k
    have hws : IntKind.i64.wrap (-(C k : Int) - 1) = -((C (k + 1) : Nat) : Int) := by rw [hng, IntWalk.i64_in _ (by omega)]; omega
    obtain ⟨N1, hN1⟩ : ∃ N1 : Int, N1 = -((C (k + 1) : Nat) : Int) := ⟨_, rfl⟩
    rw [← hN1] at hws
    have HN1 := hid hN1
    clear hx hl hp hab hng hx0 hx1 hx2 hx3 hH hN1 hCk
    go_wp2_with ((with_reducible refine wpList_idxN _ 0 E_ints F_int cInt1 wU wU (hWr) (HML.out) oD oD (fun _ => wU) (fun _ => ?_)); rw [HX.out])
    refine (HAB.out _).mono ?_
    rintro e w2 ⟨rfl, rfl⟩
    have cD := hSr.cell 1 rfl 0 rfl
    have fD := hSr.frozen 1 rfl 0
    go_wp2_with fail
    have hS1 : SL B w (wr.setCell ⟨D, 0, none⟩ (.int .i64 N1)) ([pOwn cSl 1 211 u6 H, pBlk D (.cells #[.int .i64 N1, .slice none 0 0] 153), pBlk B zForm] ++ (mxQ H (X k)).map inP) := hSr.set 1 rfl 0 (.int .i64 N1)
    obtain ⟨w3, hw3⟩ : ∃ w3, w3 = wr.setCell ⟨D, 0, none⟩ (.int .i64 N1) := ⟨_, rfl⟩
    rw [← hw3] at hS1 ⊢
    clear hw3 cD fD hSr hWr
    obtain ⟨a1, c1, hv1, hr1⟩ := hS1.slice (c := cSl) 0 rfl
    rw [HH.out] at hv1
    subst hv1
    have hrw := hS1.rowsR (pre := [pOwn cSl 1 211 (.slice a1 k c1) H, pBlk D (.cells #[.int .i64 N1, .slice none 0 0] 153), pBlk B zForm]) (n := n) (by rw [HH.out, HXL.out]) (fun r hr => (HXV.out r hr).2)
    refine (mappedF_any a1 c1 n k H (X k) w3 hr1 hrw HXL.out HXV.out hn (by omega)).mono ?_
    rintro e w4 ⟨v4, Ho, rfl, hHo, hS2⟩
    have hS3 := (hS1.call hS2).renew
    have HHO := hid hHo
    have hHo1 : Ho.length ≤ 1000 := by omega
    have HXM : Hid (((X k).map flP).length = k) := hid (by rw [List.length_map, HXL.out])
    clear hS1 hS2 hr1 hrw hHo
    go_wp2_with fail
    refine (half_any n _ (by omega) hn).mono ?_
    rintro e w2 ⟨v2, rfl, ho, b2⟩
    have hS2 := hS3.call (SL.ofOwn ho b2)
    obtain ⟨a2, c2, hv2, hr2⟩ := hS2.slice (c := cInt) 0 rfl
    have hil := rev_len n
    rw [hil] at hv2
    subst hv2
    have HC := hid (backed_any a2 c2 (revP n) p w2 hr2 (rev_VP n).1 (by rw [hil]; exact hpn) (by rw [hil]; exact hn))
    rw [hil] at HC
    clear ho b2 hr2 hil hS3
    go_wp2_with fail
    refine HC.out.mono ?_
    rintro e w3 ⟨v3, rfl, ho, b3⟩
    have hS3 := (hS2.call (SL.ofOwn ho b3)).comm (K := [pOwn cInt 1 3 v3 (bkP (revP n) p)])
    have hS4 := (SL.tail hS3).comm
    obtain ⟨a3, c3, hv3, hr3⟩ := hS4.slice (c := cInt) 0 rfl
    rw [((rev_VP n).bk hpn).2] at hv3
    subst hv3
    clear ho b3 hS2 hS3 HC hr3 hpn
    simp only [List.cons_append, List.nil_append] at hS4
    go_wp2_with ((with_reducible refine wpList_pushL (y := ((a3, n, c3) : SlH)) 1 E_smps wU wU (hS4) wU cSlO ⟨rfl, rfl⟩ (by first | with_unfolding_all rfl | simp) wU (by first | omega | (simp; omega)) (by first | omega | (simp; omega)) ?_); intro v5 w5 hS5)
    have hS6 := hS5.comm (K := [pOwn cInt 1 3 (.slice a3 n c3) (bkP (revP n) p)])
    exact ⟨⟨k + 1, Ho ++ [(a3, n, c3)], by omega, by go_num, fun e => by omega, by rw [List.length_append, HHO.out]; rfl, by
     rw [HFK.out, ← HN1.out, mxQ_snoc (by rw [HHO.out, HXM.out]), List.map_append]
     exact hS6⟩, by simp [intOf]; omega⟩
  ·have hkk : k = m := by omega
   subst hkk
   have hkn : ¬ ((k : Int) < (k : Int)) := by omega
   have hB2 : SL B w wr ([pBlk (B + 1) (.cells #[.int .i64 (-(C k : Int)), .slice none 0 0] 153), pBlk B zForm] ++ (pOwn cSl 1 211 u6 H :: (mxQ H (X k)).map inP)) := by
    rw [← HD.out]
    exact SL.pickA (K := [pOwn cSl 1 211 u6 H, pBlk D (.cells #[.int .i64 (-(C k : Int)), .slice none 0 0] 153), pBlk B zForm]) hSr [1, 2, 0] (by decide) (fun i hi => by simp at hi; simp; omega) [pBlk D (.cells #[.int .i64 (-(C k : Int)), .slice none 0 0] 153), pBlk B zForm, pOwn cSl 1 211 u6 H] rfl
   have hXk : X k = facL (garN n) [] W := by rw [HXE.out, ← HW.out, List.take_length]
   obtain ⟨ad6, c6, hv6, -⟩ := hSr.slice 0 rfl
   rw [hH] at hv6
   have HP : Hid (Calls Tryz.prog 174 #[u6] wr fun r w' => (∃ v, r = .returned v) ∧ ∃ H' Y, H'.length = k ∧ NfW (garN n) W Y ∧ Vs (garN n).toGar Y ∧ Y.length = k ∧ SL B w w' ([pBlk (B + 1) (.cells #[.int .i64 (-(C k : Int)), .slice none 0 0] 153), pBlk B zForm] ++ (pOwn cSl 1 211 u6 H' :: (mxQ H' Y).map inP))) := hid (by
    by_cases h0 : k = 0
    ·rw [h00 h0] at hB2 ⊢
     refine (push_nil wr).mono ?_
     rintro r w' ⟨hv, hb⟩
     have hX0 : X k = [] := List.length_eq_zero_iff.1 (by rw [HFL.out k (Nat.le_refl _), h0])
     refine ⟨hv, H, X k, hH, ⟨?_, ?_⟩, HFV.out k, HFL.out k (Nat.le_refl _), hB2.mono hb⟩
     ·rw [hXk]; exact .refl _
     ·rw [hX0]; intro Y hY; cases hY
    ·rw [hv6] at hB2 hSr ⊢
     rw [← hH] at hSr
     obtain ⟨G, hG, -⟩ := hSr.setOwn cSl1 0 rfl 0 (by omega) (by omega) (none, 0, 0)
     subst hG
     refine (push_any (G := G) (cp := c6) (H0 := H) (X0 := X k) (n := n) hB2.rebase hH (HFL.out k (Nat.le_refl _)) (HFV.out k) (by omega) hn hm1).mono ?_
     rintro r w' ⟨hv, H', Y, hH', hP, hN, hS'⟩
     exact ⟨hv, H', Y, hH', ⟨by rw [← hXk]; exact hP.star, hN⟩, hP.vs, by rw [hP.len]; exact HFL.out k (Nat.le_refl _), hB2.around hS'⟩)
   have HV6 := hid hv6
   clear hlt hk hSr hB2 hXk h00 hH hv6 H
   go_wp2_with fail
   refine HP.out.mono ?_
   rintro e w2 ⟨⟨v2, rfl⟩, H, Y, hH, hNf, hVs, hYl, hS2⟩
   clear HP
   have hv6 := HV6.out
   subst hv6
   have hS3 : SL B w w2 ([pOwn cSl 1 22 (.slice none 0 0) (selH (notED n) H Y 0), pBlk D (.cells #[.int .i64 (-(C k : Int) + halfN n (Y.take 0)), .slice none 0 0] 153), pBlk B zForm, pOwn cSl 1 211 (.slice ad6 k c6) H] ++ (mxQ H Y).map inP) := by
    have := hS2.nilS (α := SlH) (c := cSl) (sz := 1) (e := 22) cSlS
    rw [← HD.out] at this
    have e : (-(C k : Int) + halfN n (Y.take 0)) = -(C k : Int) := by rw [List.take_zero]; simp [halfN]
    rw [e]
    exact this
   have HNF := hid hNf; have HVS := hid hVs; have HYL := hid hYl; have HH := hid hH
   have HFIN := hid (HFI.out Y hNf)
   obtain ⟨hf, hhf⟩ : ∃ hf : Nat → Int, ∀ j, hf j = -(C k : Int) + halfN n (Y.take j) := ⟨_, fun _ => rfl⟩
   obtain ⟨sf, hsf⟩ : ∃ sf : Nat → List SlH, ∀ j, sf j = selH (notED n) H Y j := ⟨_, fun _ => rfl⟩
   have hS3b : SL B w w2 ([pOwn cSl 1 22 (.slice none 0 0) (sf 0), pBlk D (.cells #[.int .i64 (hf 0), .slice none 0 0] 153), pBlk B zForm, pOwn cSl 1 211 (.slice ad6 k c6) H] ++ (mxQ H Y).map inP) := by rw [hhf, hsf]; exact hS3
   have HHF := hid hhf; have HSF := hid hsf
   clear hS3 hS2 hNf hVs hYl hhf hsf hH HFI
   go_wp2_with fail
   go_loopw [50, 11, 60, 63] (fun iv _ _ _ wr => ∃ (j : Nat) (fv : Value), j ≤ k ∧ iv = .int .i64 j ∧ SL B w wr ([pOwn cSl 1 22 fv (sf j), pBlk D (.cells #[.int .i64 (hf j), fv] 153), pBlk B zForm, pOwn cSl 1 211 (.slice ad6 k c6) H] ++ (mxQ H Y).map inP)) (fun iv _ _ _ _ => k - (intOf iv).toNat)
   case atStart => exact ⟨0, .slice none 0 0, by omega, rfl, hS3b⟩
   case round =>
    clear hS3b hkn
    obtain ⟨j, fv, hj, rfl, hSr⟩ := hrel
    by_cases hlt : j < k
    ·have hrw := hSr.rowsR (pre := [pOwn cSl 1 22 fv (sf j), pBlk D (.cells #[.int .i64 (hf j), fv] 153), pBlk B zForm, pOwn cSl 1 211 (.slice ad6 k c6) H]) (n := n) (by rw [HH.out, HYL.out]) (fun r hr => (HVS.out r hr).2)
     obtain ⟨a1, c1, e1, h1⟩ := hrw.2 j (by rw [HYL.out]; exact hlt)
     have hRr := hSr.rd (c := cSl) 3 rfl
     have HE1 := hid e1
     have hvp := vs_nth HVS.out (k := j) (by rw [HYL.out]; exact hlt)
     have hse := selH_succ (g := notED n) (H := H) (X := Y) (j := j) (by rw [HH.out, HYL.out]) (by rw [HYL.out]; exact hlt) e1
     rw [← HSF.out, ← HSF.out] at hse
     have hfs : hf (j + 1) = hf j + (if isD n (nth Y j) then 1 else 0) := by rw [HHF.out, HHF.out, halfN_take (by rw [HYL.out]; exact hlt)]; omega
     have hsl : (sf j).length ≤ 1000 := by rw [HSF.out]; have := selH_len (g := notED n) (H := H) (X := Y) j; omega
     have hfb : -1000 ≤ hf j ∧ hf j ≤ 1000 := by
      rw [HHF.out]
      have h2 := HNL.out k
      have h3 : 0 ≤ halfN n (Y.take j) ∧ halfN n (Y.take j) ≤ 1000 := by
       unfold halfN
       have := List.length_filter_le (isD n) (Y.take j)
       rw [List.length_take] at this
       omega
      omega
     obtain ⟨T, hT⟩ : ∃ T, T = nth Y j := ⟨_, rfl⟩
     rw [← hT] at h1 hvp hse hfs
     have HPL := hid (fun w h => plain_any a1 c1 n T w h hvp hn)
     have HEQ := hid (fun a2 c2 w h h2 => equalS_any a1 a2 c1 c2 n T (revP n) w h h2 hvp.2 (rev_len n) hn)
     obtain ⟨bE, hbE⟩ : ∃ b, b = isE n T := ⟨_, rfl⟩
     obtain ⟨bD, hbD⟩ : ∃ b, b = decide (T = revP n) := ⟨_, rfl⟩
     have HED : Hid (bE = true → bD = false) := hid fun h => by
      rw [hbE] at h
      have h1 : T = idL n := of_decide_eq_true h
      rw [hbD, h1]
      exact decide_eq_false (e_ne_D hn2)
     have hse2 : sf (j + 1) = sf j ++ if (!bE && !bD) = true then [(a1, n, c1)] else [] := by rw [hbE, hbD]; exact hse
     have hfs2 : hf (j + 1) = hf j + if bD = true then 1 else 0 := by rw [hbD]; exact hfs
     rw [← hbE] at HPL
     rw [← hbD] at HEQ
     have HSE := hid hse2; have HFS := hid hfs2; have HJ := hid (show sf (j + 1) = sf (j + 1) from rfl)
     have hkH : (j : Int) < (H.length : Int) := by rw [HH.out]; omega
     obtain ⟨hb1, hb2⟩ := hfb
     obtain ⟨F, hF⟩ : ∃ F : Int, F = hf j := ⟨_, rfl⟩
     obtain ⟨S, hS⟩ : ∃ S, S = sf j := ⟨_, rfl⟩
     rw [← hF] at hSr hb1 hb2 HFS
     rw [← hS] at hSr hsl HSE
     clear hse2 hfs2 hse hfs hbE hbD hvp hT e1 hrw HJ hF hS
     go_wp2_with ((with_reducible refine wpList_idxN _ ((none, 0, 0) : SlH) E_smps F_smp cSl1 wU wU (hRr) (HH.out) oD oD (fun _ => wU) (fun _ => ?_)); rw [HE1.out])
     refine (HPL.out _ h1).mono ?_
     rintro e w3 ⟨rfl, b3⟩
     have hS1 := hSr.mono b3
     have h1b := h1.below b3
     have htl : IntKind.i64.wrap (F + 1) = F + 1 := IntWalk.i64_in _ (by omega)
     clear hRr hSr h1 b3 HPL
     cases bE with
     | true =>
      clear HEQ h1b
      have e2 : bD = false := HED.out rfl
      subst e2
      go_wp2_with fail
      exact ⟨⟨j + 1, fv, by omega, by go_num, by rw [HSE.out, HFS.out]; simpa using hS1⟩, by simp [intOf]; omega⟩
     | false =>
      go_wp2_with fail
      refine (half_any n _ (by omega) hn).mono ?_
      rintro e w4 ⟨v4, rfl, ho, b4⟩
      obtain ⟨a2, c2, hv2, hr2, -⟩ := ho.reps
      rw [rev_len] at hv2
      subst hv2
      have HC := hid (HEQ.out a2 c2 w4 (h1b.below b4) hr2)
      have hS2 := hS1.mono b4
      clear HEQ ho hr2 hS1 h1b b4
      go_wp2_with fail
      refine HC.out.mono ?_
      rintro e w5 ⟨rfl, b5⟩
      have hS1 := hS2.mono b5
      clear HC hS2 b5
      cases bD with
      | true =>
       have cD := hS1.cell 1 rfl 0 rfl
       have fD := hS1.frozen 1 rfl 0
       go_wp2_with fail
       have hS3 := hS1.set 1 rfl 0 (.int .i64 (F + 1))
       exact ⟨⟨j + 1, fv, by omega, by go_num, by rw [HSE.out, HFS.out]; simpa using hS3⟩, by simp [intOf]; omega⟩
      | false =>
       have cD := hS1.cell 1 rfl 1 rfl
       go_wp2_with (first | ((with_reducible refine wpList_pushL (y := ((a1, n, c1) : SlH)) 0 E_sls wU wU (hS1) wU cSlO ⟨rfl, rfl⟩ (by first | with_unfolding_all rfl | simp) wU (by first | omega | (simp; omega)) (by first | omega | (simp; omega)) ?_); intro v6 w6 hS3) | (with_reducible refine wpList_stoAt (sto_slsV v6 (isSl hS3 0 rfl) _ _) wU wU (hS3.cell 1 rfl 1 rfl) (hS3.frozen 1 rfl 1) ?_))
       have hS4 := hS3.set 1 rfl 1 v6
       exact ⟨⟨j + 1, v6, by omega, by go_num, by rw [HSE.out, HFS.out]; simpa using hS4⟩, by simp [intOf]; omega⟩
    ·have hjk : j = k := by omega
     subst hjk
     obtain ⟨af, cf, hfv, hRf⟩ := hSr.slice 0 rfl
     subst hfv
     have q0 := (hSr.blk 1 rfl).1
     have hjn : ¬ ((j : Int) < (j : Int)) := by omega
     clear hlt hj
     go_wp2_with (first | (with_reducible refine wpList_ldS (n := 2) (us := #[.int .i64 (hf j), .slice af (sf j).length cf]) A_form kR wU wU (by assumption) wU wU ?_) | ((with_reducible refine wpList_stoR (us := #[.int .i64 (hf j), .slice af (sf j).length cf]) 2 wU wU (hSr) wU kR wU wU ?_); intro w3 hS3))
     have hrw := (hS3.rowsR (pre := [pOwn cSl 1 22 (.slice af (sf j).length cf) (sf j), pBlk D (.cells #[.int .i64 (hf j), .slice af (sf j).length cf] 153), pBlk B (.cells #[.int .i64 (hf j), .slice af (sf j).length cf] 153), pOwn cSl 1 211 (.slice ad6 j c6) H]) (n := n) (by rw [HH.out, HYL.out]) (fun r hr => (HVS.out r hr).2)).sel (notED n)
     rw [HYL.out, ← HSF.out] at hrw
     have hC : C j = negC W := by rw [HCE.out, ← HW.out, List.take_length]
     have hh : hf j = (formY n W Y).1 := by
      rw [HHF.out, hC, List.take_of_length_le (by rw [HYL.out]; exact Nat.le_refl _)]
      show _ = halfN n Y - (negC W : Int)
      omega
     refine bodyPost_ret (results_cell rfl rfl A_form kR (hS3.blk 2 rfl).1) rfl ⟨_, rfl, ?_, by rw [← HB.out]; exact hS3.b⟩
     rw [HFIN.out]
     refine ⟨af, cf, sf j, ?_, hS3.rd 0 rfl, hrw⟩
     rw [hrw.1, hh]
     rfl
theorem form_one {W : List Int} (h : WordOk 1 W) : W = [] ∧ formW 1 W = (0, []) := by
 have h1 : W = [] := by
  cases W with
  | nil => rfl
  | cons x W =>
   have h2 := h x List.mem_cons_self
   have h3 := h2.1
   have h4 := h2.2
   split at h4 <;> omega
 refine ⟨h1, ?_⟩
 rw [formW_eq h (Y := []) ⟨by rw [h1]; exact .refl _, fun Y hY => by cases hY⟩, h1]
 rfl
theorem normal_all (n m : Nat) (ad : Option Addr) (cap : Nat) (W : List Int) (w : World) (hS : Ints w ad cap W) (hok : WordOk n W) (hm : W.length = m) (h1 : 1 ≤ n) (hn : n ≤ 1000) (hm1 : m ≤ 1000) :
  Calls Tryz.prog 118 #[.int .i64 n, .slice ad m cap] w fun r w' => ∃ v, r = .returned v ∧ FormR w' n v (formW n W) ∧ Below w.heap.size w w' := by
 by_cases h2 : n = 1
 ·subst h2
  obtain ⟨h3, h4⟩ := form_one hok
  subst h3
  rw [h4, ← hm]
  exact normal_one ad cap w
 ·exact normal_any n m ad cap W w hS hok hm (by omega) hn hm1
end Go.Proofs.YtngpopalpofhgaaGreatDoor

namespace Go.Proofs.YtngpopalpofhgaaGreatDoor
open Go.RowKit
set_option maxHeartbeats 8000000
set_option maxRecDepth 100000
theorem ReverseI_any {B : Nat} {w0 w : World} {G n cp : Nat} {row0 : List Int} (hS : SL B w0 w [pOwn cInt 1 3 (.slice (some ⟨G, 0, none⟩) n cp) row0]) (hn : row0.length = n) (hn2 : n ≤ 1000) :
  Calls Tryz.prog 116 #[.slice (some ⟨G, 0, none⟩) n cp] w fun r w' => (∃ v, r = .returned v) ∧ SL B w0 w' [pOwn cInt 1 3 (.slice (some ⟨G, 0, none⟩) n cp) row0.reverse] := by
 have hcap := (hS.rd 0 rfl).le
 have hmx := (hS.rd 0 rfl).max
 rw [hn] at hcap
 obtain ⟨M1, hM1⟩ : ∃ M1 : Int, M1 = (n : Int) - 1 := ⟨_, rfl⟩
 have hw1 : IntKind.i64.wrap ((n : Int) - 1) = M1 := by rw [hM1]; exact IntWalk.i64_in _ (by omega)
 have h0 := revI_zero hn
 have HN := hid hn; have HM := hid hM1
 clear hn hM1
 go_enter Tryz.func116, Tryz.ntmps116
 go_wp2_with fail
 go_loopw [2, 3] (fun iv jv wr => ∃ (k : Nat) (R : List Int) (I J : Int), iv = .int .i64 I ∧ jv = .int .i64 J ∧ I = k ∧ J = M1 - k ∧ k ≤ n ∧ RevI row0 n k R ∧ SL B w0 wr [pOwn cInt 1 3 (.slice (some ⟨G, 0, none⟩) n cp) R]) (fun iv jv _ => (n + 1 - (intOf iv).toNat))
 case atStart => exact ⟨0, row0, 0, M1, rfl, rfl, rfl, by omega, by omega, h0, hS⟩
 case round =>
  clear hS h0 hw1
  obtain ⟨k, row, I, J, rfl, rfl, hI, hJ, hkn, hrev, hSr⟩ := hrel
  have hM := HM.out
  by_cases hlt : I < J
  ·have hk : k < n - 1 - k := by omega
   have hrl : row.length = n := hrev.1
   have hstp := revI_step hrev hk
   have hI0 : 0 ≤ I := by omega
   have hJ0 : 0 ≤ J := by omega
   have hI1 : I < (n : Int) := by omega
   have hJ1 : J < (n : Int) := by omega
   have hI2 : I < (row.length : Int) := by omega
   have hJ2 : J < (row.length : Int) := by omega
   obtain ⟨A0, hA0⟩ : ∃ A, A = atD 0 row I := ⟨_, rfl⟩
   obtain ⟨A1, hA1⟩ : ∃ A, A = atD 0 row J := ⟨_, rfl⟩
   have HA0 : Hid (row[(I).toNat]?.map cInt = some (.int .i64 A0)) := hid (by rw [hA0]; exact get_mapI hI0 hI2)
   have HA1 : Hid (row[(J).toNat]?.map cInt = some (.int .i64 A1)) := hid (by rw [hA1]; exact get_mapI hJ0 hJ2)
   have HI5 : Hid ((row.set (I).toNat A1)[(J).toNat]?.map cInt = some (.int .i64 A1)) := hid (by rw [List.getElem?_set_ne (by omega)]; rw [hA1]; exact get_mapI hJ0 hJ2)
   have HSTP : Hid (RevI row0 n (k + 1) ((row.set I.toNat A1).set J.toNat A0)) := hid (by
    rw [show I.toNat = k by omega, show J.toNat = n - 1 - k by omega, hA0, hA1, hI, show J = ((n - 1 - k : Nat) : Int) by omega]
    exact hstp)
   obtain ⟨Ia, hIa⟩ : ∃ Ia : Int, Ia = I + 1 := ⟨_, rfl⟩
   obtain ⟨Ja, hJa⟩ : ∃ Ja : Int, Ja = J - 1 := ⟨_, rfl⟩
   have hw2 : IntKind.i64.wrap (I + 1) = Ia := by rw [hIa]; exact IntWalk.i64_in _ (by omega)
   have hw3 : IntKind.i64.wrap (J - 1) = Ja := by rw [hJa]; exact IntWalk.i64_in _ (by omega)
   have HI1 : Hid (Ia = ((k + 1 : Nat) : Int)) := hid (by omega)
   have HJ1 : Hid (Ja = M1 - ((k + 1 : Nat) : Int)) := hid (by omega)
   have HK1 : Hid (k + 1 ≤ n) := hid (by omega)
   have HMS : Hid (n + 1 - Ia.toNat < n + 1 - I.toNat) := hid (by omega)
   have dlt : decide (I < J) = true := decide_eq_true hlt
   clear hA0 hA1 hI hJ hM hrl hstp hrev hIa hJa hkn hk hlt
   go_wp2_with fail
   refine wp_regionK (C := (fun V => Below B w0 V)) [0, 1, 2, 3, 4, 5, 6, 8, 9, 10] [_, _, _, _, _, _, _, _, _, _] 6 (by simp only [List.map_cons, List.map_nil, List.getElem?_toArray]; rfl) rfl kR kR kR (hSr.b.drew) ?_
   refine ⟨.slice (some ⟨G, 0, none⟩) n cp, yieldsK_val wU (fun w' => by first | (go_simp; done) | (go_simp; rfl)), ?_⟩
   go_frame
   refine ⟨.int .i64 I, yieldsK_val wU (fun w' => by first | (go_simp; done) | (go_simp; rfl)), ?_⟩
   go_frame
   refine ⟨.slice (some ⟨G, 0, none⟩) n cp, yieldsK_val wU (fun w' => by first | (go_simp; done) | (go_simp; rfl)), ?_⟩
   go_frame
   refine ⟨.int .i64 J, yieldsK_val wU (fun w' => by first | (go_simp; done) | (go_simp; rfl)), ?_⟩
   go_frame
   refine ⟨.slice (some ⟨G, 0, none⟩) n cp, yieldsK_val wU (fun w' => by first | (go_simp; done) | (go_simp; rfl)), ?_⟩
   go_frame
   refine ⟨.int .i64 J, yieldsK_val wU (fun w' => by first | (go_simp; done) | (go_simp; rfl)), ?_⟩
   go_frame
   refine ⟨.pointer (some ⟨G, (J).toNat, none⟩), yieldsK_val wU (fun w' => by first | (go_simp; done) | (go_simp; rfl)), ?_⟩
   go_frame
   refine ⟨.slice (some ⟨G, 0, none⟩) n cp, yieldsK_val wU (fun w' => by first | (go_simp; done) | (go_simp; rfl)), ?_⟩
   go_frame
   refine ⟨.int .i64 I, yieldsK_val wU (fun w' => by first | (go_simp; done) | (go_simp; rfl)), ?_⟩
   go_frame
   refine ⟨.pointer (some ⟨G, (I).toNat, none⟩), yieldsK_val wU (fun w' => by first | (go_simp; done) | (go_simp; rfl)), ?_⟩
   go_frame
   unfold wpPureK
   have hVd : ({ wr with drawn := wr.drawn + 1 } : World) = wr.drew := rfl
   rw [hVd]
   clear hVd
   obtain ⟨W4, hW4⟩ : ∃ W4, W4 = wr.drew := ⟨_, rfl⟩
   have hS4 : SL B w0 W4 [pOwn cInt 1 3 (.slice (some ⟨G, 0, none⟩) n cp) row] := by rw [hW4]; exact hSr.drew
   rw [← hW4]
   clear hW4 hSr
   obtain ⟨g0, eg0, -, hcI, -, -⟩ := hS4.setOwn cInt1 0 rfl (J) hJ0 hJ2 0
   cases eg0
   obtain ⟨g1, eg1, -, hcP, hfP, hS5⟩ := hS4.setOwn cInt1 0 rfl (I) hI0 hI2 A1
   cases eg1
   obtain ⟨g2, eg2, -, hcI5, hfI5, hS6⟩ := hS5.setOwn cInt1 0 rfl (J) hJ0 (by rw [List.length_set]; exact hJ2) A0
   cases eg2
   rw [HA1.out] at hcI
   rw [HA0.out] at hcP
   rw [HI5.out] at hcI5
   replace hS6 : SL B w0 ((W4.setCell ⟨G, (I).toNat, none⟩ (.int .i64 A1)).setCell ⟨G, (J).toNat, none⟩ (.int .i64 A0)) [pOwn cInt 1 3 (.slice (some ⟨G, 0, none⟩) n cp) ((row.set (I).toNat A1).set (J).toNat A0)] := hS6
   refine wpAnyC_on [7, 11] kR (by simp) ?_
   simp only [List.forall_mem_cons, List.not_mem_nil, false_implies, implies_true, and_true]
   refine ⟨?_, ?_⟩
   ·as_aux_lemma =>
    refine wpOp_value (v := .int .i64 A1) (w' := W4) (by rw [List.getElem?_toArray]; rfl) wU (by first | (go_simp; done) | (go_simp; rfl) | (simp [execOp, Act.eval, Result.andThen]; done)) ?_
    refine ⟨hS4.b, ?_⟩
    go_frame
    refine wpAnyC_on [11] kR (by simp) ?_
    simp only [List.forall_mem_cons, List.not_mem_nil, false_implies, implies_true, and_true]
    refine wpOp_value (v := .int .i64 A0) (w' := W4) (by rw [List.getElem?_toArray]; rfl) wU (by first | (go_simp; done) | (go_simp; rfl) | (simp [execOp, Act.eval, Result.andThen]; done)) ?_
    refine ⟨hS4.b, ?_⟩
    go_frame
    refine wpAnyC_on [12] kR (by simp) ?_
    simp only [List.forall_mem_cons, List.not_mem_nil, false_implies, implies_true, and_true]
    refine wpOp_value (v := .pointer (some ⟨G, (I).toNat, none⟩)) (w' := W4) (by rw [List.getElem?_toArray]; rfl) wU (by first | (go_simp; done) | (go_simp; rfl) | (simp [execOp, Act.eval, Result.andThen]; done)) ?_
    refine ⟨hS4.b, ?_⟩
    go_frame
    refine wpAnyC_on [13] kR (by simp) ?_
    simp only [List.forall_mem_cons, List.not_mem_nil, false_implies, implies_true, and_true]
    refine wpOp_of_list (by rw [List.getElem?_toArray]; rfl) ?_
    refine wpList_stoAt (sto_int A1 _ _) wU wU hcP hfP ?_
    refine ⟨hS5.b, ?_⟩
    go_frame
    refine wpAnyC_on [14] kR (by simp) ?_
    simp only [List.forall_mem_cons, List.not_mem_nil, false_implies, implies_true, and_true]
    refine wpOp_value (v := .pointer (some ⟨G, (J).toNat, none⟩)) (w' := (W4.setCell ⟨G, (I).toNat, none⟩ (.int .i64 A1))) (by rw [List.getElem?_toArray]; rfl) wU (by first | (go_simp; done) | (go_simp; rfl) | (simp [execOp, Act.eval, Result.andThen]; done)) ?_
    refine ⟨hS5.b, ?_⟩
    go_frame
    refine wpAnyC_on [15] kR (by simp) ?_
    simp only [List.forall_mem_cons, List.not_mem_nil, false_implies, implies_true, and_true]
    refine wpOp_of_list (by rw [List.getElem?_toArray]; rfl) ?_
    refine wpList_stoAt (sto_int A0 _ _) wU wU hcI5 hfI5 ?_
    refine ⟨hS6.b, ?_⟩
    go_frame
    refine wpAnyC_rest [] [] rfl rfl kR kR kR hS6.b ?_
    unfold wpPure
    refine of_wpList_nil (P := Tryz.prog) (ops := #[]) ?_
    show wpList _ _ _ _ _ ((W4.setCell ⟨G, (I).toNat, none⟩ (.int .i64 A1)).setCell ⟨G, (J).toNat, none⟩ (.int .i64 A0))
    generalize ((W4.setCell ⟨G, (I).toNat, none⟩ (.int .i64 A1)).setCell ⟨G, (J).toNat, none⟩ (.int .i64 A0)) = w6 at *
    clear hS5 hS4 hcP hfP hcI5 hfI5 hcI
    go_wp2_with fail
    exact ⟨⟨k + 1, _, Ia, Ja, rfl, rfl, HI1.out, HJ1.out, HK1.out, HSTP.out, hS6⟩, by simp only [intOf]; exact HMS.out⟩
   ·as_aux_lemma =>
    refine wpOp_value (v := .int .i64 A0) (w' := W4) (by rw [List.getElem?_toArray]; rfl) wU (by first | (go_simp; done) | (go_simp; rfl) | (simp [execOp, Act.eval, Result.andThen]; done)) ?_
    refine ⟨hS4.b, ?_⟩
    go_frame
    refine wpAnyC_on [7] kR (by simp) ?_
    simp only [List.forall_mem_cons, List.not_mem_nil, false_implies, implies_true, and_true]
    refine wpOp_value (v := .int .i64 A1) (w' := W4) (by rw [List.getElem?_toArray]; rfl) wU (by first | (go_simp; done) | (go_simp; rfl) | (simp [execOp, Act.eval, Result.andThen]; done)) ?_
    refine ⟨hS4.b, ?_⟩
    go_frame
    refine wpAnyC_on [12] kR (by simp) ?_
    simp only [List.forall_mem_cons, List.not_mem_nil, false_implies, implies_true, and_true]
    refine wpOp_value (v := .pointer (some ⟨G, (I).toNat, none⟩)) (w' := W4) (by rw [List.getElem?_toArray]; rfl) wU (by first | (go_simp; done) | (go_simp; rfl) | (simp [execOp, Act.eval, Result.andThen]; done)) ?_
    refine ⟨hS4.b, ?_⟩
    go_frame
    refine wpAnyC_on [13] kR (by simp) ?_
    simp only [List.forall_mem_cons, List.not_mem_nil, false_implies, implies_true, and_true]
    refine wpOp_of_list (by rw [List.getElem?_toArray]; rfl) ?_
    refine wpList_stoAt (sto_int A1 _ _) wU wU hcP hfP ?_
    refine ⟨hS5.b, ?_⟩
    go_frame
    refine wpAnyC_on [14] kR (by simp) ?_
    simp only [List.forall_mem_cons, List.not_mem_nil, false_implies, implies_true, and_true]
    refine wpOp_value (v := .pointer (some ⟨G, (J).toNat, none⟩)) (w' := (W4.setCell ⟨G, (I).toNat, none⟩ (.int .i64 A1))) (by rw [List.getElem?_toArray]; rfl) wU (by first | (go_simp; done) | (go_simp; rfl) | (simp [execOp, Act.eval, Result.andThen]; done)) ?_
    refine ⟨hS5.b, ?_⟩
    go_frame
    refine wpAnyC_on [15] kR (by simp) ?_
    simp only [List.forall_mem_cons, List.not_mem_nil, false_implies, implies_true, and_true]
    refine wpOp_of_list (by rw [List.getElem?_toArray]; rfl) ?_
    refine wpList_stoAt (sto_int A0 _ _) wU wU hcI5 hfI5 ?_
    refine ⟨hS6.b, ?_⟩
    go_frame
    refine wpAnyC_rest [] [] rfl rfl kR kR kR hS6.b ?_
    unfold wpPure
    refine of_wpList_nil (P := Tryz.prog) (ops := #[]) ?_
    show wpList _ _ _ _ _ ((W4.setCell ⟨G, (I).toNat, none⟩ (.int .i64 A1)).setCell ⟨G, (J).toNat, none⟩ (.int .i64 A0))
    generalize ((W4.setCell ⟨G, (I).toNat, none⟩ (.int .i64 A1)).setCell ⟨G, (J).toNat, none⟩ (.int .i64 A0)) = w6 at *
    clear hS5 hS4 hcP hfP hcI5 hfI5 hcI
    go_wp2_with fail
    exact ⟨⟨k + 1, _, Ia, Ja, rfl, rfl, HI1.out, HJ1.out, HK1.out, HSTP.out, hS6⟩, by simp only [intOf]; exact HMS.out⟩
  ·have hend := revI_end HN.out hrev (by omega) hkn
   have dlt : decide (I < J) = false := decide_eq_false hlt
   rw [hend] at hSr
   clear hI hJ hM hrev hlt hend
   go_wp2_with fail
   go_end0
   exact ⟨⟨_, rfl⟩, hSr⟩
theorem equalI_any (a a2 : Option Addr) (cap cap2 n : Nat) (l m : List Int) (w : World) (hS : Ints w a cap l) (hM : Ints w a2 cap2 m) (hl : l.length = n) (hm : m.length = n) (hn : n ≤ 1000) :
  Calls Tryz.prog 75 #[.slice a n cap, .slice a2 n cap2] w fun r w' => r = .returned (.bool (decide (l = m))) ∧ Below w.heap.size w w' := by
 have hcap := hS.le
 have hmx := hS.max
 have hcap2 := hM.le
 have hmx2 := hM.max
 obtain ⟨E, hE⟩ : ∃ E, E = decide (l = m) := ⟨_, rfl⟩
 rw [← hE]
 have HT : Hid ((∀ j : Nat, j < n → atD 0 l j = atD 0 m j) → E = true) := hid fun h => by
  rw [hE]
  refine decide_eq_true (ext_atD (by omega) fun j j0 j1 => ?_)
  have := h j.toNat (by omega)
  rw [show ((j.toNat : Nat) : Int) = j by omega] at this
  exact this
 have HF : Hid (∀ j : Nat, j < n → atD 0 l j ≠ atD 0 m j → E = false) := hid fun j hj h => by
  rw [hE]
  exact decide_eq_false fun e => h (by rw [e])
 have HL := hid hl; have HM := hid hm
 have dn : ((n : Int) != (n : Int)) = false := by simp
 clear hE hl hm
 go_enter Tryz.func75, Tryz.ntmps75
 go_wp2_with fail
 clear dn
 go_loopw [13, 5] (fun iv _ wr => ∃ k : Nat, iv = .int .i64 k ∧ k ≤ n ∧ (∀ j : Nat, j < k → atD 0 l j = atD 0 m j) ∧ Below w.heap.size w wr) (fun iv _ _ => n - (intOf iv).toNat)
 case atStart => exact ⟨0, rfl, by omega, fun j h => by omega, Below.refl _ _⟩
 case round =>
  obtain ⟨k, rfl, hk, hall, hbr⟩ := hrel
  by_cases hlt : k < n
  ·obtain ⟨X, hX⟩ : ∃ X, X = atD 0 l k := ⟨_, rfl⟩
   obtain ⟨Y, hY⟩ : ∃ Y, Y = atD 0 m k := ⟨_, rfl⟩
   have hk1 : (k : Int) < (l.length : Int) := by have := HL.out; omega
   have hk2 : (k : Int) < (m.length : Int) := by have := HM.out; omega
   have hSr := hS.below hbr
   have hMr := hM.below hbr
   have HX := hid hX; have HY := hid hY
   by_cases e : X = Y
   ·have dXY : (X != Y) = false := by simp [e]
    have HALL : Hid (∀ j : Nat, j < k + 1 → atD 0 l j = atD 0 m j) := hid fun j h => by
     by_cases e2 : j = k
     ·rw [e2, ← hX, ← hY, e]
     ·exact hall j (by omega)
    clear hX hY hall e
    go_wp2_with fail
    refine wp_region_q kR kR ?_
    repeat (first | (((with_reducible refine wpB_idx2 0 E_ints F_int cInt1 wU (HL.out) wU (hSr) oD oD (fun _ => wU) (fun _ => ?_)); (try simp only [Act.put, pA, pB, pC]); (try simp only [cInt])); rw [← HX.out]) | (((with_reducible refine wpB_idx2 0 E_ints F_int cInt1 wU (HM.out) wU (hMr) oD oD (fun _ => wU) (fun _ => ?_)); (try simp only [Act.put, pA, pB, pC]); (try simp only [cInt])); rw [← HY.out]) | (((refine wpQ_oneG ?_ wU (fun w' => ?_) ?_); rotate_left; (go_simp; rfl); (try simp only [Act.put, pA, pB, pC])); rw [dXY]) | ((refine wpQ_oneG ?_ wU (fun w' => ?_) ?_); rotate_left; (go_simp; rfl); (try simp only [Act.put, pA, pB, pC])) |  ((with_reducible refine wpB_load (by first | exact F_int | exact F_u64s) wU wU (by assumption) wU ?_); (try simp only [Act.put, pA, pB, pC])) | ((with_reducible refine wpB_loadS (n := 2) (us := #[_, _]) A_int kR wU wU (by assumption) wU wU ?_); (try simp only [Act.put, pA, pB, pC])) | ((with_reducible refine wpB_loadS (n := 4) (us := #[_, _, _, _]) A_frac kR wU wU (by assumption) wU wU ?_); (try simp only [Act.put, pA, pB, pC])) | ((refine wpQ_oneG ?_ wU (fun w' => ?_) ?_); rotate_left; (go_simp; rfl); (try simp only [Act.put, pA, pB, pC])))
    refine wpQuiet_nil ?_
    intro w1 hb1
    go_wp2_with fail
    exact ⟨⟨k + 1, by go_num, by omega, HALL.out, bnext hbr hb1⟩, by simp [intOf]; omega⟩
   ·have dXY : (X != Y) = true := by simp [e]
    have HE : Hid (E = false) := hid (HF.out k hlt (by rw [← hX, ← hY]; exact e))
    clear hX hY hall e
    go_wp2_with fail
    refine wp_region_q kR kR ?_
    repeat (first | (((with_reducible refine wpB_idx2 0 E_ints F_int cInt1 wU (HL.out) wU (hSr) oD oD (fun _ => wU) (fun _ => ?_)); (try simp only [Act.put, pA, pB, pC]); (try simp only [cInt])); rw [← HX.out]) | (((with_reducible refine wpB_idx2 0 E_ints F_int cInt1 wU (HM.out) wU (hMr) oD oD (fun _ => wU) (fun _ => ?_)); (try simp only [Act.put, pA, pB, pC]); (try simp only [cInt])); rw [← HY.out]) | (((refine wpQ_oneG ?_ wU (fun w' => ?_) ?_); rotate_left; (go_simp; rfl); (try simp only [Act.put, pA, pB, pC])); rw [dXY]) | ((refine wpQ_oneG ?_ wU (fun w' => ?_) ?_); rotate_left; (go_simp; rfl); (try simp only [Act.put, pA, pB, pC])) |  ((with_reducible refine wpB_load (by first | exact F_int | exact F_u64s) wU wU (by assumption) wU ?_); (try simp only [Act.put, pA, pB, pC])) | ((with_reducible refine wpB_loadS (n := 2) (us := #[_, _]) A_int kR wU wU (by assumption) wU wU ?_); (try simp only [Act.put, pA, pB, pC])) | ((with_reducible refine wpB_loadS (n := 4) (us := #[_, _, _, _]) A_frac kR wU wU (by assumption) wU wU ?_); (try simp only [Act.put, pA, pB, pC])) | ((refine wpQ_oneG ?_ wU (fun w' => ?_) ?_); rotate_left; (go_simp; rfl); (try simp only [Act.put, pA, pB, pC])))
    refine wpQuiet_nil ?_
    intro w1 hb1
    go_wp2_with fail
    go_ret
    exact ⟨by rw [HE.out]; rfl, bnext hbr hb1⟩
  ·have HE : Hid (E = true) := hid (HT.out fun j hj => hall j (by omega))
   have hkn : ¬ ((k : Int) < (n : Int)) := by omega
   clear hall hlt hk
   go_wp2_with fail
   go_ret
   exact ⟨by rw [HE.out]; rfl, hbr⟩
theorem reverse0_any (a : Option Addr) (cp : Nat) (w : World) : Calls Tryz.prog 116 #[.slice a 0 cp] w fun r w' => (∃ v, r = .returned v) ∧ w = w' := by
 go_enter Tryz.func116, Tryz.ntmps116
 go_wp2_with fail
 go_loopw [2, 3] (fun iv jv wr => iv = .int .i64 0 ∧ jv = .int .i64 (-1) ∧ wr = w) (fun _ _ _ => 0)
 case atStart => exact ⟨rfl, rfl, rfl⟩
 case round =>
  obtain ⟨rfl, rfl, rfl⟩ := hrel
  go_wp2_with fail
  go_end0
  exact ⟨⟨_, rfl⟩, rfl⟩
theorem rowsEq {X Y : List (List Int)} (h : X.length = Y.length) (k : ∀ j, j < X.length → nth X j = nth Y j) : X = Y := by
 refine List.ext_getElem h fun i h1 h2 => ?_
 have := k i h1
 simpa [nth, atD, h1, h2] using this
theorem eqFunc_any (n m m2 : Nat) (a a2 : Option Addr) (c c2 : Nat) (H H2 : List SlH) (X Y : List (List Int)) (w : World) (hR : Reps cSl 1 w a c H) (hR2 : Reps cSl 1 w a2 c2 H2) (hr : RowsR w n H X) (hr2 : RowsR w n H2 Y) (hX : X.length = m) (hY : Y.length = m2)
  (hXn : ∀ x ∈ X, x.length = n) (hYn : ∀ x ∈ Y, x.length = n) (hn : n ≤ 1000) :
  Calls Tryz.prog 129 #[.slice a m c, .slice a2 m2 c2, .func (.func 75) #[] #[]] w fun r w' => r = .returned (.bool (decide (X = Y))) ∧ Below w.heap.size w w' := by
 have hcap := hR.le
 have hmx := hR.max
 have hcap2 := hR2.le
 have hmx2 := hR2.max
 rw [hr.1, hX] at hcap
 rw [hr2.1, hY] at hcap2
 by_cases hm : m = m2
 ·subst hm
  obtain ⟨E, hE⟩ : ∃ E, E = decide (X = Y) := ⟨_, rfl⟩
  rw [← hE]
  have HT : Hid ((∀ j : Nat, j < m → nth X j = nth Y j) → E = true) := hid fun h => by
   rw [hE]
   exact decide_eq_true (rowsEq (by omega) (by rw [hX]; exact h))
  have HF : Hid (∀ j : Nat, j < m → nth X j ≠ nth Y j → E = false) := hid fun j hj h => by
   rw [hE]
   exact decide_eq_false fun e => h (by rw [e])
  have HC : Hid (∀ j : Nat, j < m → ∃ b d b2 d2, atD ((none, 0, 0) : SlH) H (j : Int) = (b, n, d) ∧ atD ((none, 0, 0) : SlH) H2 (j : Int) = (b2, n, d2) ∧ ∀ wr, Below w.heap.size w wr → Calls Tryz.prog 75 #[.slice b n d, .slice b2 n d2] wr fun r w' => r = .returned (.bool (decide (nth X j = nth Y j))) ∧ Below wr.heap.size wr w') := hid fun j hj => by
   obtain ⟨b, d, e, r⟩ := hr.2 j (by omega)
   obtain ⟨b2, d2, e2, r2⟩ := hr2.2 j (by omega)
   refine ⟨b, d, b2, d2, e, e2, fun wr hb => equalI_any b b2 d d2 n _ _ wr (r.below hb) (r2.below hb) ?_ ?_ hn⟩
   ·exact hXn _ (List.mem_of_getElem? (nth_some (by omega)))
   ·exact hYn _ (List.mem_of_getElem? (nth_some (by omega)))
  have HL : Hid (H.length = m) := hid (by rw [hr.1, hX]); have HL2 : Hid (H2.length = m) := hid (by rw [hr2.1, hY])
  have dn : ((m : Int) != (m : Int)) = false := by simp
  clear hE hX hY hr hr2 hXn hYn
  go_enter Tryz.func129, Tryz.ntmps129
  go_wp2_with fail
  clear dn
  go_loopw [17, 7, 8, 9] (fun iv _ _ _ wr => ∃ k : Nat, iv = .int .i64 k ∧ k ≤ m ∧ (∀ j : Nat, j < k → nth X j = nth Y j) ∧ Below w.heap.size w wr) (fun iv _ _ _ _ => m - (intOf iv).toNat)
  case atStart => exact ⟨0, rfl, by omega, fun j h => by omega, Below.refl _ _⟩
  case round =>
   obtain ⟨k, rfl, hk, hall, hbr⟩ := hrel
   by_cases hlt : k < m
   ·obtain ⟨b, d, b2, d2, e1, e2, hc⟩ := HC.out k hlt
    have hk1 : (k : Int) < (H.length : Int) := by have := HL.out; omega
    have hk2 : (k : Int) < (H2.length : Int) := by have := HL2.out; omega
    have hSr := hR.below hbr
    have hMr := hR2.below hbr
    have HE1 := hid e1; have HE2 := hid e2
    have HALL : Hid (nth X k = nth Y k → ∀ j : Nat, j < k + 1 → nth X j = nth Y j) := hid fun e j h => by
     by_cases e2 : j = k
     ·rw [e2, e]
     ·exact hall j (by omega)
    have HFK := hid (HF.out k hlt)
    have HK := hid (hc wr hbr)
    obtain ⟨D, hD⟩ : ∃ D, D = decide (nth X k = nth Y k) := ⟨_, rfl⟩
    rw [← hD] at HK
    have HD := hid hD
    clear hall e1 e2 hc hD
    go_wp2_with (first | ((with_reducible refine wpList_idxN _ ((none, 0, 0) : SlH) E_sls F_sl cSl1 wU wU (hSr) (HL.out) oD oD (fun _ => wU) (fun _ => ?_)); rw [HE1.out]) | ((with_reducible refine wpList_idxN _ ((none, 0, 0) : SlH) E_sls F_sl cSl1 wU wU (hMr) (HL2.out) oD oD (fun _ => wU) (fun _ => ?_)); rw [HE2.out]))
    refine HK.out.mono ?_
    rintro e w1 ⟨rfl, b1⟩
    cases D with
    | true =>
     have HA := hid (HALL.out (of_decide_eq_true HD.out.symm))
     go_wp2_with fail
     exact ⟨⟨k + 1, by go_num, by omega, HA.out, bnext hbr b1⟩, by simp [intOf]; omega⟩
    | false =>
     have HE := hid (HFK.out (of_decide_eq_false HD.out.symm))
     go_wp2_with fail
     go_ret
     exact ⟨by rw [HE.out]; rfl, bnext hbr b1⟩
   ·have HE : Hid (E = true) := hid (HT.out fun j hj => hall j (by omega))
    have hkn : ¬ ((k : Int) < (m : Int)) := by omega
    clear hall hlt hk
    go_wp2_with fail
    go_ret
    exact ⟨by rw [HE.out]; rfl, hbr⟩
 ·have dn : ((m : Int) != (m2 : Int)) = true := by simp; omega
  have hE : decide (X = Y) = false := decide_eq_false fun e => hm (by rw [← hX, ← hY, e])
  rw [hE]
  clear hr hr2 hX hY hXn hYn hE
  go_enter Tryz.func129, Tryz.ntmps129
  go_wp2_with fail
  go_ret
  exact ⟨rfl, Below.refl _ _⟩
end Go.Proofs.YtngpopalpofhgaaGreatDoor

namespace Go.Proofs.YtngpopalpofhgaaGreatDoor
open Go.RowKit
set_option maxHeartbeats 8000000
set_option maxRecDepth 100000
theorem word_okE {n : Nat} {l : List Int} (h : wordE (n : Int) l = 0) : WordOk n l := fun x hx => by
 obtain ⟨h1, h2, _, h4⟩ := wordE_fits h
 have h5 := h4 x hx
 refine ⟨h5.1, ?_⟩
 split <;> omega
theorem formW_len {n : Nat} {l : List Int} (h : WordOk n l) : ∀ x ∈ (formW n l).2, x.length = n := fun x hx => by
 have h1 := (nfY_ok h).1.vs (word_vs h)
 have h2 : x ∈ nfY n l := (List.mem_filter.1 hx).1
 exact (h1 x h2).2
theorem same_any (n : Nat) (v1 v2 : Value) (f g : Int × List (List Int)) (w : World) (h1 : FormR w n v1 f) (h2 : FormR w n v2 g) (hf : ∀ x ∈ f.2, x.length = n) (hg : ∀ x ∈ g.2, x.length = n) (hn : n ≤ 1000) :
  Calls Tryz.prog 119 #[v1, v2] w fun r w' => r = .returned (.bool (decide (f = g))) ∧ Below w.heap.size w w' := by
 obtain ⟨a, c, H, rfl, hR, hr⟩ := h1
 obtain ⟨a2, c2, H2, rfl, hR2, hr2⟩ := h2
 obtain ⟨fh, X⟩ := f
 obtain ⟨gh, Y⟩ := g
 dsimp only at hr hr2 hf hg ⊢
 have HQ : Hid (∀ W, Below w.heap.size w W → Calls Tryz.prog 129 #[.slice a X.length c, .slice a2 Y.length c2, .func (.func 75) #[] #[]] W fun r w' => r = .returned (.bool (decide (X = Y))) ∧ Below W.heap.size W w') :=
  hid fun W hb => eqFunc_any n _ _ a a2 c c2 H H2 X Y W (hR.below hb) (hR2.below hb) (hr.below hb) (hr2.below hb) rfl rfl hf hg hn
 have hb : Below w.heap.size w ((w.alloc (.cells #[.int .i64 fh, .slice a X.length c] 153)).alloc (.cells #[.int .i64 gh, .slice a2 Y.length c2] 153)) := bal (bal (Below.refl _ _) _) _
 have hS := ((SL.nil w).box (.cells #[.int .i64 fh, .slice a X.length c] 153)).box (.cells #[.int .i64 gh, .slice a2 Y.length c2] 153)
 simp only [World.size_alloc] at hS
 obtain ⟨W, hW⟩ : ∃ W, W = ((w.alloc (.cells #[.int .i64 fh, .slice a X.length c] 153)).alloc (.cells #[.int .i64 gh, .slice a2 Y.length c2] 153)) := ⟨_, rfl⟩
 rw [← hW] at hb hS
 have cA := hS.cell 1 rfl 0 rfl
 have cB := hS.cell 1 rfl 1 rfl
 have cC := hS.cell 0 rfl 0 rfl
 have cD := hS.cell 0 rfl 1 rfl
 have HK := hid (HQ.out W hb)
 by_cases e : fh = gh
 ·subst e
  have e2 : decide ((fh, X) = (fh, Y)) = decide (X = Y) := by simp
  rw [e2]
  have de : ((fh : Int) == fh) = true := by simp
  clear e2 hR hR2 hr hr2 hf hg hS HQ
  go_enter Tryz.func119, Tryz.ntmps119
  go_wp2_with fail
  simp only [← hW]
  clear hW
  go_wp2_with fail
  refine HK.out.mono ?_
  rintro r w1 ⟨rfl, b1⟩
  go_wp2_with fail
  go_ret
  exact ⟨rfl, bnext hb b1⟩
 ·have e2 : decide ((fh, X) = (gh, Y)) = false := decide_eq_false fun h => e (by cases h; rfl)
  rw [e2]
  have de : ((fh : Int) == gh) = false := by simp [e]
  clear e2 hR hR2 hr hr2 hf hg hS HQ e HK
  go_enter Tryz.func119, Tryz.ntmps119
  go_wp2_with fail
  simp only [← hW]
  clear hW
  go_wp2_with fail
  go_ret
  exact ⟨rfl, hb⟩
theorem equal_any (n : Nat) (a a2 : Option Addr) (c c2 : Nat) (l m : List Int) (w : World) (hS : Ints w a c l) (hM : Ints w a2 c2 m) (hl : wordE (n : Int) l = 0) (hm : wordE (n : Int) m = 0) :
  Calls Tryz.prog 62 #[.int .i64 n, .slice a l.length c, .slice a2 m.length c2] w fun r w' => r = .returned (.bool (decide (formW n l = formW n m))) ∧ Below w.heap.size w w' := by
 obtain ⟨hn1, hn2, hl2, _⟩ := wordE_fits hl
 obtain ⟨_, _, hm2, _⟩ := wordE_fits hm
 have HN := hid (fun W (h : Ints W a c l) => normal_all n l.length a c l W h (word_okE hl) rfl (by omega) (by omega) (by omega))
 have HN2 := hid (fun W (h : Ints W a2 c2 m) => normal_all n m.length a2 c2 m W h (word_okE hm) rfl (by omega) (by omega) (by omega))
 have HS := hid (fun v1 v2 W (h1 : FormR W n v1 (formW n l)) (h2 : FormR W n v2 (formW n m)) => same_any n v1 v2 _ _ W h1 h2 (formW_len (word_okE hl)) (formW_len (word_okE hm)) (by omega))
 obtain ⟨f, hf⟩ : ∃ f, f = formW n l := ⟨_, rfl⟩
 obtain ⟨g, hg⟩ : ∃ g, g = formW n m := ⟨_, rfl⟩
 rw [← hf] at HN HS ⊢
 rw [← hg] at HN2 HS ⊢
 have hcap := hS.le
 have hcap2 := hM.le
 clear hf hg hl hm
 go_enter Tryz.func62, Tryz.ntmps62
 go_wp2_with fail
 refine (HN.out w hS).mono ?_
 rintro e w1 ⟨v1, rfl, r1, b1⟩
 go_wp2_with fail
 refine (HN2.out w1 (hM.below b1)).mono ?_
 rintro e w2 ⟨v2, rfl, r2, b2⟩
 go_wp2_with fail
 refine (HS.out v1 v2 w2 (r1.below b2) r2).mono ?_
 rintro e w3 ⟨rfl, b3⟩
 have t := bnext (bnext b1 b2) b3
 clear b1 b2 b3 r1 r2
 go_wp2_with fail
 go_ret
 exact ⟨rfl, t⟩
theorem checkBoth_any (n : Nat) (a a2 : Option Addr) (c c2 : Nat) (l m : List Int) (w : World) (hS : Ints w a c l) (hM : Ints w a2 c2 m) (hl : wordE (n : Int) l = 0) (hm : wordE (n : Int) m = 0) :
  Calls Tryz.prog 59 #[.int .i64 n, .slice a l.length c, .slice a2 m.length c2] w fun r w' => r = .returned (.int .i64 0) ∧ Below w.heap.size w w' := by
 obtain ⟨hn1, hn2, hl2, _⟩ := wordE_fits hl
 obtain ⟨_, _, hm2, _⟩ := wordE_fits hm
 have CW := fun w (hS : Ints w a c l) => CheckWord_any n a c l w hS (by omega)
 have CW2 := fun w (hS : Ints w a2 c2 m) => CheckWord_any n a2 c2 m w hS (by omega)
 rw [hl] at CW
 rw [hm] at CW2
 have HW := hid CW; have HW2 := hid CW2
 clear CW CW2 hl hm
 go_enter Tryz.func59, Tryz.ntmps59
 go_wp2_with fail
 refine (HW.out w hS).mono ?_
 rintro e w1 ⟨rfl, b1⟩
 go_wp2_with fail
 refine (HW2.out w1 (hM.below b1)).mono ?_
 rintro e w2 ⟨rfl, b2⟩
 have t := bnext b1 b2
 clear b1 b2
 go_wp2_with (go_at_call 105; refine (bfirst_any _ _ [_, _] _ (reps_newN cIntS [_, _] 2 rfl (by decide) _ _ (by simp) rfl)).mono ?_; rintro e w' ⟨rfl, rfl⟩)
 go_ret
 exact ⟨rfl, bal t _⟩
theorem Equal_any (n : Nat) (a a2 : Option Addr) (c c2 : Nat) (l m : List Int) (w : World) (hS : Ints w a c l) (hM : Ints w a2 c2 m) (hl : wordE (n : Int) l = 0) (hm : wordE (n : Int) m = 0) :
  Calls Tryz.prog 22 #[.int .i64 n, .slice a l.length c, .slice a2 m.length c2] w fun r w' => r = .returned (.tuple #[.bool (decide (formW n l = formW n m)), .int .i64 0]) ∧ Below w.heap.size w w' := by
 have HC := hid (fun W (h : Ints W a c l) (h2 : Ints W a2 c2 m) => checkBoth_any n a a2 c c2 l m W h h2 hl hm)
 have HE := hid (fun W (h : Ints W a c l) (h2 : Ints W a2 c2 m) => equal_any n a a2 c c2 l m W h h2 hl hm)
 obtain ⟨E, hE⟩ : ∃ E, E = decide (formW n l = formW n m) := ⟨_, rfl⟩
 rw [← hE] at HE ⊢
 clear hE hl hm
 go_enter Tryz.func22, Tryz.ntmps22
 go_wp2_with fail
 refine (HC.out w hS hM).mono ?_
 rintro e w1 ⟨rfl, b1⟩
 go_wp2_with fail
 refine (HE.out w1 (hS.below b1) (hM.below b1)).mono ?_
 rintro e w2 ⟨rfl, b2⟩
 have t := bnext b1 b2
 clear b1 b2
 go_wp2_with fail
 go_ret2
 exact ⟨rfl, t⟩
end Go.Proofs.YtngpopalpofhgaaGreatDoor

namespace Go.Proofs.YtngpopalpofhgaaGreatDoor
open Go.RowKit
set_option maxHeartbeats 8000000
set_option maxRecDepth 100000
theorem negW_len (l : List Int) : (negW l).length = l.length := by unfold negW; rw [List.length_map]
theorem inverse_any (a : Option Addr) (c : Nat) (l : List Int) (w : World) (hS : Ints w a c l) (hl : l.length ≤ 1000) (hr : ∀ x ∈ l, -1000 ≤ x ∧ x ≤ 1000) :
  Calls Tryz.prog 58 #[.slice a l.length c] w fun r w' => ∃ v, r = .returned v ∧ OwnI w.heap.size w' v (invW l) ∧ Below w.heap.size w w' := by
 have HM := hid (bmapneg_any a c l w hS hl hr)
 obtain ⟨L, hL⟩ : ∃ L, L = negW l := ⟨_, rfl⟩
 have hLl : L.length = l.length := by rw [hL, negW_len]
 have hI : invW l = L.reverse := by rw [hL]; rfl
 rw [← hL] at HM
 rw [hI]
 obtain ⟨n, hn⟩ : ∃ n, n = l.length := ⟨_, rfl⟩
 rw [← hn] at HM hLl hl ⊢
 clear hL hI hr hS hn
 go_enter Tryz.func58, Tryz.ntmps58
 go_wp2_with fail
 refine HM.out.mono ?_
 rintro e w1 ⟨v1, rfl, ho, b1⟩
 have hS1 := SL.ofOwn ho b1
 obtain ⟨a1, c1, hv1, -⟩ := hS1.slice (c := cInt) 0 rfl
 rw [hLl] at hv1
 subst hv1
 clear ho b1
 by_cases h0 : n = 0
 ·subst h0
  go_wp2_with fail
  refine (reverse0_any a1 c1 w1).mono ?_
  rintro e w2 ⟨⟨v2, rfl⟩, rfl⟩
  go_wp2_with fail
  go_ret
  have e : L = [] := List.length_eq_zero_iff.1 hLl
  subst e
  exact ⟨_, rfl, hS1.own 0 rfl, hS1.b⟩
 ·rw [← hLl] at hS1
  obtain ⟨G, hG, -⟩ := hS1.setOwn cInt1 0 rfl 0 (by omega) (by omega) 0
  subst hG
  rw [hLl] at hS1
  have HR := hid (ReverseI_any hS1 hLl hl)
  clear hS1
  go_wp2_with fail
  refine HR.out.mono ?_
  rintro e w2 ⟨⟨v2, rfl⟩, hS2⟩
  go_wp2_with fail
  go_ret
  exact ⟨_, rfl, hS2.own 0 rfl, hS2.b⟩
theorem Inverse_any (n : Nat) (a : Option Addr) (cap : Nat) (l : List Int) (w : World) (hS : Ints w a cap l) (h : wordE (n : Int) l = 0) :
  Calls Tryz.prog 20 #[.int .i64 n, .slice a l.length cap] w fun r w' => ∃ v, r = .returned (.tuple #[v, .int .i64 0]) ∧ OwnI w.heap.size w' v (invW l) ∧ Below w.heap.size w w' := by
 obtain ⟨hn1, hn2, hl, _⟩ := wordE_fits h
 have CW := fun w (hS : Ints w a cap l) => CheckWord_any n a cap l w hS (by omega)
 rw [h] at CW
 have HW := hid CW
 have HP := hid (fun w (hS : Ints w a cap l) => inverse_any a cap l w hS (by omega) (word_small h))
 have hS0 := SL.nil w
 clear CW h
 go_enter Tryz.func20, Tryz.ntmps20
 go_wp2_with fail
 refine (HW.out _ hS).mono ?_
 rintro e w1 ⟨rfl, b1⟩
 have hS1 := hS0.mono b1
 clear hS0
 go_wp2_with fail
 refine (HP.out _ (hS.below b1)).mono ?_
 rintro e w2 ⟨v2, rfl, ho2, b2⟩
 have hS2 := hS1.call (SL.ofOwn ho2 b2)
 rw [List.append_nil] at hS2
 clear hS1 ho2
 go_wp2_with fail
 go_ret2
 exact ⟨v2, rfl, hS2.own 0 rfl, hS2.b⟩
theorem own_take {B n cp k : Nat} {e : TypeId} {w : World} {G : Nat} {l : List Int} (h : Own cInt 1 B e w (.slice (some ⟨G, 0, none⟩) n cp) l) (hn : l.length = n) (hk : k ≤ n) : Own cInt 1 B e w (.slice (some ⟨G, 0, none⟩) k cp) (l.take k) := by
 subst hn
 obtain ⟨h1, h2, h3⟩ := h
 have hl : (l.take k).length = k := by rw [List.length_take]; omega
 have e1 : ∀ L : List Int, (L.flatMap fun x => (cInt x).cells.toList) = L.map cInt := fun L => by
  induction L with
  | nil => rfl
  | cons x L ih => rw [List.flatMap_cons, ih]; rfl
 rw [e1] at h2 h3
 refine ⟨h1, ?_, ?_⟩
 ·rw [e1, List.length_map]; omega
 ·rw [e1]
  rcases h3 with ⟨h3, _⟩ | ⟨g, cap, cur, hv, hB, hg, q1, q2, q3, q4⟩
  ·cases h3
  ·injection hv with v1 v2 v3
   subst v3
   refine .inr ⟨g, cp, cur, ?_, hB, hg, by omega, q2, q3, ?_⟩
   ·rw [v1, hl]
   ·rw [hl, List.map_take, ← q4, List.take_take]
    congr 1
    omega
theorem SL.takeI {B n cp k G : Nat} {e : TypeId} {w0 w : World} {L : List Pc} {l : List Int} (h : SL B w0 w L) (i : Nat) (hi : L[i]? = some (pOwn cInt 1 e (.slice (some ⟨G, 0, none⟩) n cp) l)) (hn : l.length = n) (hk : k ≤ n) : SL B w0 w (L.set i (pOwn cInt 1 e (.slice (some ⟨G, 0, none⟩) k cp) (l.take k))) :=
 h.weaken i hi _ fun b hb => ⟨own_take hb.1 hn hk, hb.2⟩
theorem cut_to {G n cp j : Nat} (hj : j ≤ n) (hn : n ≤ cp) : ∀ V, (Instr.sliceAt 22 (.slice (some ⟨G, 0, none⟩) n cp) none (some (.int .i64 j)) none).run Tryz.prog V = .ok (.slice (some ⟨G, 0, none⟩) j cp) V := fun V => by
 obtain ⟨inf, hinf, _, hs, _⟩ := info_parts E_ints.inf
 have hb := run_bounds (P := Tryz.prog) (w := V) (n := n) (cap := cp) (lo := none) (hi := some (.int .i64 j)) (i := 0) (j := j) (.inr ⟨rfl, rfl⟩) (.inl rfl) (by omega) (by omega)
 simp [Instr.sliceAt, run_underlying E_ints.und, Instr.slice, hb, sizeOf, typeInfo, hinf, hs, Addr.add]
theorem reduced_any (a : Option Addr) (c m : Nat) (l : List Int) (w : World) (hS : Ints w a c l) (hlm : l.length = m) (hl : m ≤ 1000) (hr : ∀ x ∈ l, -1000 ≤ x ∧ x ≤ 1000) :
  Calls Tryz.prog 63 #[.slice a m c] w fun r w' => ∃ v, r = .returned v ∧ OwnI w.heap.size w' v (l.foldl pushO []).reverse ∧ Below w.heap.size w w' := by
 have hcap := hS.le
 have hmx := hS.max
 rw [hlm] at hcap
 obtain ⟨R, hR⟩ : ∃ R : Nat → List Int, ∀ k, R k = (l.take k).foldl pushO [] := ⟨_, fun _ => rfl⟩
 have hR0 : R 0 = [] := by rw [hR]; rfl
 have hRm : R m = l.foldl pushO [] := by rw [hR, ← hlm, List.take_length]
 have hRs : ∀ k, k < m → R (k + 1) = pushO (R k) (atD 0 l k) := fun k hk => by
  have e : l.take (k + 1) = l.take k ++ [atD 0 l k] := by rw [List.take_succ_eq_append_getElem (by omega)]; simp [atD, show k < l.length by omega]
  rw [hR, hR, e, List.foldl_append]; rfl
 have hRl : ∀ k, (R k).length ≤ k := fun k => by
  induction k with
  | zero => rw [hR0]; exact Nat.le_refl _
  | succ k ih =>
   by_cases hk : k < m
   ·rw [hRs k hk]
    cases e : R k with
    | nil => simp [pushO]
    | cons y t =>
     rw [e, List.length_cons] at ih
     show (if y = -(atD 0 l k) then t else atD 0 l k :: y :: t).length ≤ k + 1
     split
     ·omega
     ·simp only [List.length_cons]; omega
   ·rw [hR, List.take_of_length_le (by omega), ← List.take_of_length_le (l := l) (i := k) (by omega), ← hR]
    omega
 rw [← hRm]
 have HRS := hid hRs; have HRL := hid hRl; have HLM := hid hlm; have HRR := hid (fun k (hk : k < m) => hr (atD 0 l k) (atD_mem (by omega)))
 have hSL : SL w.heap.size w w [pOwn cInt 1 3 (.slice none 0 0) (R 0).reverse] := by rw [hR0]; exact (SL.nil w).nilS (α := Int) (e := 3) cIntS
 clear hR hR0 hRm hRs hRl hlm hr
 go_enter Tryz.func63, Tryz.ntmps63
 go_wp2_with fail
 go_loopw [9, 5, 6, 3] (fun iv _ _ ov wr => ∃ k : Nat, iv = .int .i64 k ∧ k ≤ m ∧ SL w.heap.size w wr [pOwn cInt 1 3 ov (R k).reverse]) (fun iv _ _ _ _ => m - (intOf iv).toNat)
 case atStart => exact ⟨0, rfl, by omega, hSL⟩
 case round =>
  clear hSL
  obtain ⟨k, rfl, hk, hSr⟩ := hrel
  by_cases hlt : k < m
  ·have hWr := hS.below hSr.b
   have hkW : (k : Int) < (l.length : Int) := by have := HLM.out; omega
   have hst := HRS.out k hlt
   have hRk := HRL.out k
   obtain ⟨x, hx⟩ : ∃ x, atD 0 l k = x := ⟨_, rfl⟩
   have hxr := HRR.out k hlt
   rw [hx] at hst hxr
   have hng : IntKind.i64.wrap (-x) = -x := IntWalk.i64_in _ (by omega)
   have HX := hid hx
   obtain ⟨S, hSS⟩ : ∃ S, S = R k := ⟨_, rfl⟩
   rw [← hSS] at hst hSr hRk
   have HST := hid hst
   clear hx hst hSS
   cases S with
   | nil =>
    obtain ⟨a0, c0, hv0, -⟩ := hSr.slice 0 rfl
    simp only [List.reverse_nil, List.length_nil] at hv0
    rw [List.reverse_nil] at hSr
    subst hv0
    go_wp2_with (first | ((with_reducible refine wpList_idxN _ 0 E_ints F_int cInt1 wU wU (hWr) (HLM.out) oD oD (fun _ => wU) (fun _ => ?_)); rw [HX.out]) | ((with_reducible refine wpList_pushL (y := x) 0 E_ints wU wU (hSr) wU cIntO ⟨rfl, rfl⟩ (by first | with_unfolding_all rfl | simp) wU (by first | omega | (simp; omega)) (by first | omega | (simp; omega)) ?_); intro v3 w3 hS3))
    exact ⟨⟨k + 1, by go_num, by omega, by rw [HST.out]; exact hS3⟩, by simp [intOf]; omega⟩
   | cons y t =>
    obtain ⟨T, hT⟩ : ∃ T, T = t.length := ⟨_, rfl⟩
    obtain ⟨L, hL⟩ : ∃ L, L = (y :: t).reverse := ⟨_, rfl⟩
    have hLl : L.length = T + 1 := by rw [hL, hT, List.length_reverse]; rfl
    have hLy : atD 0 L (T : Int) = y := by rw [hL, List.reverse_cons, hT]; unfold atD; simp [List.getD_eq_getElem?_getD]
    have hLt : L.take T = t.reverse := by rw [hL, List.reverse_cons, hT, ← List.length_reverse, List.take_left]
    rw [← hL] at hSr
    simp only [List.length_cons, ← hT] at hRk
    rw [← hLl] at hRk
    obtain ⟨a0, c0, hv0, -⟩ := hSr.slice 0 rfl
    subst hv0
    obtain ⟨G, hG, -, hcT, -⟩ := hSr.setOwn cInt1 0 rfl (T : Int) (by omega) (by omega) 0
    subst hG
    have hRr := hSr.rd 0 rfl
    have hle := hRr.le
    have hRm := hRr.max
    have hcv : L[T]?.map cInt = some (.int .i64 y) := by
     rw [← hLy]
     have : T < L.length := by omega
     simp [atD, this, cInt]
    rw [Int.toNat_natCast, hcv] at hcT
    rw [hLl] at hSr hle hRk ⊢
    clear hcv hRr
    have HLL := hid hLl; have HLY := hid hLy; have HLT := hid hLt
    have hTL : (T : Int) < (L.length : Int) := by omega
    have hwT : IntKind.i64.wrap (((T + 1 : Nat) : Int) - 1) = T := by rw [show ((T + 1 : Nat) : Int) - 1 = T by omega]; exact IntWalk.i64_in _ (by omega)
    have hwT2 : IntKind.i64.wrap ((T : Int) + 1 - 1) = T := by rw [show (T : Int) + 1 - 1 = T by omega]; exact IntWalk.i64_in _ (by omega)
    have hcut := cut_to (G := G) (n := T + 1) (cp := c0) (j := T) (by omega) hle
    by_cases e : y = -x
    ·have HS2 : Hid ((R (k + 1)).reverse = t.reverse) := hid (by rw [HST.out]; show (if y = -x then t else _).reverse = _; rw [if_pos e])
     have de : ((y : Int) == -x) = true := by simp [e]
     clear hT hL hLl hLy hLt e HST
     go_wp2_with ((with_reducible refine wpList_idxN _ 0 E_ints F_int cInt1 wU wU (hWr) (HLM.out) oD oD (fun _ => wU) (fun _ => ?_)); rw [HX.out])
     have hS3 := hSr.takeI (k := T) 0 rfl HLL.out (by omega)
     rw [HLT.out] at hS3
     exact ⟨⟨k + 1, by go_num, by omega, by rw [HS2.out]; exact hS3⟩, by simp [intOf]; omega⟩
    ·have HS2 : Hid ((R (k + 1)).reverse = L ++ [x]) := hid (by rw [HST.out, hL]; show (if y = -x then t else x :: y :: t).reverse = _; rw [if_neg e, List.reverse_cons])
     have de : ((y : Int) == -x) = false := by simp [e]
     have hL20 : L.length ≤ 1000 := by omega
     clear hT hL hLl hLy hLt e HST
     go_wp2_with (first | ((with_reducible refine wpList_idxN _ 0 E_ints F_int cInt1 wU wU (hWr) (HLM.out) oD oD (fun _ => wU) (fun _ => ?_)); rw [HX.out]) | ((with_reducible refine wpList_pushL (y := x) 0 E_ints wU wU (hSr) wU cIntO ⟨rfl, rfl⟩ (by first | with_unfolding_all rfl | simp) wU (by first | omega | (simp; omega)) (by first | omega | (simp; omega)) ?_); intro v3 w3 hS3))
     exact ⟨⟨k + 1, by go_num, by omega, by rw [HS2.out]; exact hS3⟩, by simp [intOf]; omega⟩
  ·have hkk : k = m := by omega
   subst hkk
   have hkn : ¬ ((k : Int) < (k : Int)) := by omega
   clear hlt hk
   go_wp2_with fail
   go_ret
   exact ⟨_, rfl, hSr.own 0 rfl, hSr.b⟩
theorem Reduce_any (n : Nat) (a : Option Addr) (cap : Nat) (l : List Int) (w : World) (hS : Ints w a cap l) (h : wordE (n : Int) l = 0) :
  Calls Tryz.prog 23 #[.int .i64 n, .slice a l.length cap] w fun r w' => ∃ v, r = .returned (.tuple #[v, .int .i64 0]) ∧ OwnI w.heap.size w' v (l.foldl pushO []).reverse ∧ Below w.heap.size w w' := by
 obtain ⟨hn1, hn2, hl, _⟩ := wordE_fits h
 have CW := fun w (hS : Ints w a cap l) => CheckWord_any n a cap l w hS (by omega)
 rw [h] at CW
 have HW := hid CW
 have HP := hid (fun w (hS : Ints w a cap l) => reduced_any a cap l.length l w hS rfl (by omega) (word_small h))
 have hS0 := SL.nil w
 clear CW h
 go_enter Tryz.func23, Tryz.ntmps23
 go_wp2_with fail
 refine (HW.out _ hS).mono ?_
 rintro e w1 ⟨rfl, b1⟩
 have hS1 := hS0.mono b1
 clear hS0
 go_wp2_with fail
 refine (HP.out _ (hS.below b1)).mono ?_
 rintro e w2 ⟨v2, rfl, ho2, b2⟩
 have hS2 := hS1.call (SL.ofOwn ho2 b2)
 rw [List.append_nil] at hS2
 clear hS1 ho2
 go_wp2_with fail
 go_ret2
 exact ⟨v2, rfl, hS2.own 0 rfl, hS2.b⟩
end Go.Proofs.YtngpopalpofhgaaGreatDoor

namespace Go.Proofs.YtngpopalpofhgaaGreatDoor
open Go.RowKit
set_option maxHeartbeats 8000000
set_option maxRecDepth 100000
theorem cut_nil : ∀ V, (Instr.sliceAt 22 (.slice none 0 0) none (some (.int .i64 0)) none).run Tryz.prog V = .ok (.slice none 0 0) V := fun V => by
 obtain ⟨inf, hinf, _, hs, _⟩ := info_parts E_ints.inf
 have hb := run_bounds (P := Tryz.prog) (w := V) (n := 0) (cap := 0) (lo := none) (hi := some (.int .i64 0)) (i := 0) (j := 0) (.inr ⟨rfl, rfl⟩) (.inl rfl) (by omega) (by omega)
 simp [Instr.sliceAt, run_underlying E_ints.und, Instr.slice, hb, sizeOf, typeInfo, hinf, hs]
theorem cut_zero (a : Option Addr) (n cp : Nat) (h : n ≤ cp) (h0 : 0 < cp) : ∃ a', (∀ G, a = some ⟨G, 0, none⟩ → a' = a) ∧ ∀ V, (Instr.sliceAt 22 (.slice a n cp) none (some (.int .i64 0)) none).run Tryz.prog V = .ok (.slice a' 0 cp) V := by
 refine ⟨a.map fun x => x.add 0, fun G hG => by subst hG; rfl, fun V => ?_⟩
 obtain ⟨inf, hinf, _, hs, _⟩ := info_parts E_ints.inf
 have hb := run_bounds (P := Tryz.prog) (w := V) (n := n) (cap := cp) (lo := none) (hi := some (.int .i64 0)) (i := 0) (j := 0) (.inr ⟨rfl, rfl⟩) (.inl rfl) (by omega) (by omega)
 simp [Instr.sliceAt, run_underlying E_ints.und, Instr.slice, hb, sizeOf, typeInfo, hinf, hs]
 intro h
 omega
theorem grow_any (n : Nat) (w : World) (hn : n ≤ 1000) :
  Calls Tryz.prog 117 #[.slice none 0 0, .int .i64 n] w fun r w' => ∃ v, r = .returned v ∧ OwnI w.heap.size w' v [] ∧ Below w.heap.size w w' := by
 by_cases h0 : n = 0
 ·subst h0
  go_enter Tryz.func117, Tryz.ntmps117
  go_wp2_with fail
  go_ret
  exact ⟨_, rfl, own_nil cIntS, Below.refl _ _⟩
 ·obtain ⟨inf, hi, hz0, hz1, hz2⟩ := info_parts E_ints.inf
  have happ := Lib.run_append_nil_zeros (P := Tryz.prog) w 22 3 22 3 inf (.int .i64 0) .i64 .i64 E_ints.und Tryz.underlying3 hi hz0 n (by omega) (by omega) (by omega) (by rw [hz2]; omega)
  generalize hcap : grownCap w n 0 3 = cap2 at happ
  have hcapge : n ≤ cap2 := by rw [← hcap]; exact grownCap_ge w _ 0 3
  have hcaple : cap2 ≤ maxLen := by rw [← hcap]; exact grownCap_le_maxLen w _ 0 3 (by unfold maxLen; omega)
  generalize hZ : (Builtin.zeroCells (Value.int .i64 0).cells n ++ Builtin.zeroCells (Value.int .i64 0).cells (cap2 - n)) = Z at happ
  have hZs : Z.size = cap2 := by rw [← hZ]; simp [size_zeroCells, Value.cells]; omega
  have hw1 : IntKind.i64.wrap (n : Int) = n := IntWalk.i64_in _ (by omega)
  have hw2 : IntKind.i64.wrap ((n : Int) - 0) = n := by rw [Int.sub_zero]; exact hw1
  have hcn := cut_nil
  obtain ⟨a', ha, hcz⟩ := cut_zero (some ⟨w.heap.size, 0, none⟩) n cap2 hcapge (by omega)
  have ha' := ha _ rfl
  subst ha'
  have hn0 : ¬ ((n : Int) ≤ 0) := by omega
  have hres : OwnI w.heap.size (w.drew.alloc (.cells Z 3)) (.slice (some ⟨w.heap.size, 0, none⟩) 0 cap2) [] := by
   refine ⟨cIntS, rfl, .inr ⟨w.heap.size, cap2, Z, rfl, Nat.le_refl _, ?_, by simp, hcaple, by rw [hZs]; omega, by simp⟩⟩
   exact heap_alloc_new w.drew _
  have hbl : Below w.heap.size w (w.drew.alloc (.cells Z 3)) := bal (Below.refl _ _).drew _
  clear hcap hZ ha
  go_enter Tryz.func117, Tryz.ntmps117
  go_wp2_with (at_builtin; refine Lib.wpList_append_run _ rfl _ _ _ _ rfl _ _ rfl rfl _ _ happ ?_)
  go_ret
  exact ⟨_, rfl, hres, hbl⟩
theorem concat_any (m : Nat) (a : Option Addr) (c : Nat) (H : List SlH) (X : List (List Int)) (w : World) (hR : Reps cSl 1 w a c H) (hH : H.length = m) (hX : X.length = m) (hm : m ≤ 1000)
  (hrow : ∀ k : Nat, k < m → ∃ b d, atD ((none, 0, 0) : SlH) H (k : Int) = (b, (nth X k).length, d) ∧ Ints w b d (nth X k)) (hs : X.flatten.length ≤ 1000) :
  Calls Tryz.prog 61 #[.slice a m c] w fun r w' => ∃ v, r = .returned v ∧ OwnI w.heap.size w' v X.flatten ∧ Below w.heap.size w w' := by
 have hcap := hR.le
 have hmx := hR.max
 rw [hH] at hcap
 obtain ⟨F, hF⟩ : ∃ F : Nat → List Int, ∀ k, F k = (X.take k).flatten := ⟨_, fun _ => rfl⟩
 have hF0 : F 0 = [] := by rw [hF]; rfl
 have hFm : F m = X.flatten := by rw [hF, ← hX, List.take_length]
 have hFs : ∀ k, k < m → F (k + 1) = F k ++ nth X k := fun k hk => by rw [hF, hF, nth_take (by omega), List.flatten_append]; simp
 have hFl : ∀ k, k ≤ m → (F k).length ≤ 1000 := fun k hk => by
  have : X.flatten = F k ++ (X.drop k).flatten := by rw [hF, ← List.flatten_append, List.take_append_drop]
  have h2 : X.flatten.length = (F k).length + (X.drop k).flatten.length := by rw [this, List.length_append]
  omega
 rw [← hFm]
 have HFS := hid hFs; have HFL := hid hFl; have HRW := hid hrow; have HH := hid hH; have HF0 := hid hF0
 clear hF hF0 hFm hFs hFl hrow hs hX hH
 go_enter Tryz.func61, Tryz.ntmps61
 go_wp2_with fail
 go_loopw [11, 5, 3] (fun iv _ sv wr => ∃ k : Nat, iv = .int .i64 k ∧ sv = .int .i64 ((F k).length : Nat) ∧ k ≤ m ∧ Below w.heap.size w wr) (fun iv _ _ _ => m - (intOf iv).toNat)
 case atStart => exact ⟨0, rfl, by rw [HF0.out]; rfl, by omega, Below.refl _ _⟩
 case round =>
  obtain ⟨k, rfl, rfl, hk, hbr⟩ := hrel
  by_cases hlt : k < m
  ·obtain ⟨b, d, e1, h1⟩ := HRW.out k hlt
   have hRr := hR.below hbr
   have hkH : (k : Int) < (H.length : Int) := by have := HH.out; omega
   have h2 := HFL.out (k + 1) (by omega)
   have h3 := HFS.out k hlt
   rw [h3, List.length_append] at h2
   have hFk : (F (k + 1)).length = (F k).length + (nth X k).length := by rw [h3, List.length_append]
   obtain ⟨N, hN⟩ : ∃ N, N = (nth X k).length := ⟨_, rfl⟩
   obtain ⟨K, hK⟩ : ∃ K, K = (F k).length := ⟨_, rfl⟩
   rw [← hN] at h2 hFk e1
   rw [← hK] at h2 hFk ⊢
   have hw1 : IntKind.i64.wrap ((K : Int) + (N : Int)) = ((K + N : Nat) : Int) := by rw [IntWalk.i64_in _ (by omega)]; omega
   have dn : decide (((K + N : Nat) : Int) < 0) = false := decide_eq_false (by omega)
   have HE1 := hid e1; have HFK := hid hFk
   clear e1 h1 h3 hN hK hFk
   go_wp2_with ((with_reducible refine wpList_idxN _ ((none, 0, 0) : SlH) E_sls F_sl cSl1 wU wU (hRr) (HH.out) oD oD (fun _ => wU) (fun _ => ?_)); rw [HE1.out])
   exact ⟨⟨k + 1, by go_num, by rw [HFK.out]; go_num, by omega, hbr⟩, by simp [intOf]; omega⟩
  ·have hkk : k = m := by omega
   subst hkk
   have hFk := HFL.out k (Nat.le_refl _)
   have hkn : ¬ ((k : Int) < (k : Int)) := by omega
   obtain ⟨K, hK⟩ : ∃ K, K = (F k).length := ⟨_, rfl⟩
   rw [← hK] at hFk ⊢
   clear hlt hk hK
   go_wp2_with fail
   refine (grow_any K _ hFk).mono ?_
   rintro e w1 ⟨v1, rfl, ho, b1⟩
   have hS0 := (SL.of_below hbr)
   have hS1 : SL w.heap.size w w1 [pOwn cInt 1 3 v1 (F 0)] := by rw [HF0.out]; exact hS0.call (SL.ofOwn ho b1)
   clear ho b1 hbr hS0
   go_wp2_with fail
   go_loopw [27, 8, 6] (fun iv _ ov wr => ∃ j : Nat, iv = .int .i64 j ∧ j ≤ k ∧ SL w.heap.size w wr [pOwn cInt 1 3 ov (F j)]) (fun iv _ _ _ => k - (intOf iv).toNat)
   case atStart => exact ⟨0, rfl, by omega, hS1⟩
   case round =>
    clear hS1 hkn
    obtain ⟨j, rfl, hj, hSr⟩ := hrel
    by_cases hlt : j < k
    ·obtain ⟨b, d, e1, h1⟩ := HRW.out j hlt
     have hRr := hR.below hSr.b
     have hkH : (j : Int) < (H.length : Int) := by have := HH.out; omega
     have h2 := HFL.out (j + 1) (by omega)
     have h3 := HFS.out j hlt
     rw [h3, List.length_append] at h2
     have HE1 := hid e1; have HFK := hid h3
     have h1r := h1.below hSr.b
     obtain ⟨N, hN⟩ : ∃ N, N = nth X j := ⟨_, rfl⟩
     rw [← hN] at h1r h2 HE1 HFK
     have hN2 : N.length ≤ 1000 := by omega
     have hF2 : (F j).length ≤ 1000 := by omega
     clear e1 h1 h3 hN
     go_wp2_with (first | ((with_reducible refine wpList_idxN _ ((none, 0, 0) : SlH) E_sls F_sl cSl1 wU wU (hRr) (HH.out) oD oD (fun _ => wU) (fun _ => ?_)); rw [HE1.out]) | ((with_reducible refine wpList_appL 0 E_ints wU wU (hSr) wU (h1r) (rfl) cIntO (by first | omega | (simp; omega)) (by first | omega | (simp; omega)) ?_); intro v3 w3 hS3))
     exact ⟨⟨j + 1, by go_num, by omega, by rw [HFK.out]; exact hS3⟩, by simp [intOf]; omega⟩
    ·have hjk : j = k := by omega
     subst hjk
     have hjn : ¬ ((j : Int) < (j : Int)) := by omega
     clear hlt hj
     go_wp2_with fail
     go_ret
     exact ⟨_, rfl, hSr.own 0 rfl, hSr.b⟩
end Go.Proofs.YtngpopalpofhgaaGreatDoor

namespace Go.Proofs.YtngpopalpofhgaaGreatDoor
open Go.RowKit
set_option maxHeartbeats 8000000
set_option maxRecDepth 100000
theorem limited_any (a : Option Addr) (n c : Nat) (w : World) (h : n ≤ 200) : Calls Tryz.prog 60 #[.slice a n c] w fun r w' => r = .returned (.tuple #[.slice a n c, .int .i64 0]) ∧ w = w' := by
 have dn : decide (200 < (n : Int)) = false := decide_eq_false (by omega)
 go_enter Tryz.func60, Tryz.ntmps60
 go_wp2_with fail
 go_ret2
 exact ⟨rfl, rfl⟩
theorem bConcat_any (n : Nat) (a a2 : Option Addr) (c c2 : Nat) (l m : List Int) (w : World) (hS : Ints w a c l) (hM : Ints w a2 c2 m) (hl : wordE (n : Int) l = 0) (hm : wordE (n : Int) m = 0) (hlm : l.length + m.length ≤ 200) :
  Calls Tryz.prog 21 #[.int .i64 n, .slice a l.length c, .slice a2 m.length c2] w fun r w' => ∃ v, r = .returned (.tuple #[v, .int .i64 0]) ∧ OwnI w.heap.size w' v (l ++ m) ∧ Below w.heap.size w w' := by
 have HC := hid (fun W (h : Ints W a c l) (h2 : Ints W a2 c2 m) => checkBoth_any n a a2 c c2 l m W h h2 hl hm)
 have HK : Hid (∀ W b, Reps cSl 1 W b 2 [(a, l.length, c), (a2, m.length, c2)] → Ints W a c l → Ints W a2 c2 m → Calls Tryz.prog 61 #[.slice b 2 2] W fun r w' => ∃ v, r = .returned v ∧ OwnI W.heap.size w' v (l ++ m) ∧ Below W.heap.size W w') := hid fun W b hR h1 h2 => by
  have := concat_any 2 b 2 [(a, l.length, c), (a2, m.length, c2)] [l, m] W hR rfl rfl (by decide) (fun k hk => by
   rcases k with _ | _ | k
   ·exact ⟨a, c, rfl, h1⟩
   ·exact ⟨a2, c2, rfl, h2⟩
   ·omega) (by simp; omega)
  simpa using this
 have hlen : (l ++ m).length ≤ 200 := by rw [List.length_append]; exact hlm
 obtain ⟨J, hJ⟩ : ∃ J, J = l ++ m := ⟨_, rfl⟩
 rw [← hJ] at HK hlen ⊢
 have hcap := hS.le
 have hcap2 := hM.le
 clear hl hm hlm hJ
 go_enter Tryz.func21, Tryz.ntmps21
 go_wp2_with fail
 refine (HC.out w hS hM).mono ?_
 rintro e w1 ⟨rfl, b1⟩
 go_wp2_with fail
 have b2 := bal (Below.refl w1.heap.size w1) (.cells #[.slice a l.length c, .slice a2 m.length c2] 22)
 have hR2 : Reps cSl 1 (w1.alloc (.cells #[.slice a l.length c, .slice a2 m.length c2] 22)) (some ⟨w1.heap.size, 0, none⟩) 2 [(a, l.length, c), (a2, m.length, c2)] := reps_newN (w := w1) cSlS [(a, l.length, c), (a2, m.length, c2)] 2 rfl (by decide) #[.slice a l.length c, .slice a2 m.length c2] (0, 0) rfl rfl
 refine (HK.out _ _ hR2 (hS.below (bnext b1 b2)) (hM.below (bnext b1 b2))).mono ?_
 rintro e w3 ⟨v3, rfl, ho, b3⟩
 have hS0 := SL.of_below (bnext b1 b2)
 have hS3 := hS0.call (SL.ofOwn ho b3)
 obtain ⟨a3, c3, hv3, -⟩ := hS3.slice (c := cInt) 0 rfl
 subst hv3
 clear ho b3 b2 b1 hS0 hR2
 go_wp2_with fail
 refine (limited_any a3 J.length c3 w3 hlen).mono ?_
 rintro e w4 ⟨rfl, rfl⟩
 go_wp2_with fail
 go_ret2
 exact ⟨_, rfl, hS3.own 0 rfl, hS3.b⟩
end Go.Proofs.YtngpopalpofhgaaGreatDoor
