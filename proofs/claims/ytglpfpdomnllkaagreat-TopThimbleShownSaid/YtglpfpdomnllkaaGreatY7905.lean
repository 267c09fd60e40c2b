/- Contracts and plain facts that the claim uses (NfS WoP RlC RfC CrP BrB CrQ RlD). Conditions: as each one states. -/
import Derived.Test.YtglpfpdomnllkaaGreatProg
import Derived.WalkKit
import Derived.WalkSpells
import Derived.Maps.AppendAt
import Derived.Deep.Quiet
import Derived.Maps.Own
import Derived.Maps.OwnSet
import Derived.Maps.Views
import Derived.WalkLawsBesides
import Derived.Laws.EntriesVeiled
import Derived.RangeFuncNested
import Derived.RangeFuncBound
import Derived.RangeFuncCalls
import Derived.RangeFuncLeaves
import Derived.RangeFuncFrom
import Derived.Shelf.Abstract
import Derived.Shelf.RegionOpen
import Derived.OwnWalkIn
import Derived.TacticsInMore
import Derived.LoopNIn
import Derived.LoopIn
import Derived.Deep.QuietTactic
import Derived.BigQuiet
import Derived.Shelf.Strings.Trim
import Derived.Shelf.Strings.SlTrimAscii
import Derived.Shelf.Strings.Repeat
import Derived.Shelf.Strings.OnBuilder
import Derived.Shelf.Strconv.Itoa1
import Derived.Shelf.Strconv.Itoa3
import Derived.Shelf.LaysM
import Derived.Ground.Names2Prog
import Derived.Lib.OthersKept
import Derived.Deep.RegionHeld3
import Derived.Deep.AppendLies
import Derived.Deep.RegionHeldLaw
import Derived.Deep.RegionLaw
import Derived.StillTail
import Derived.Laws.Tables
import Derived.IntWalk
import Derived.Laws.CopyOwn
import Derived.BigRegion
import Derived.ChangeAlike
import Derived.Shelf.Bits.Mul64
import Derived.Lib.ItoaLen
import Derived.Lib.ItoaMem
import Derived.Sort.LoopGhostIn
import Derived.Maps.RangeWalk
import Derived.Maps.Ext
import Derived.Sort.QuietThIn
import Derived.Deep.LoopGhost
import Derived.Lib.Split
import Derived.Lib.AtoiAll
import Derived.Lib.AppendIntMem
import Derived.Lib.SmallJoins
import Derived.LaidSub
import Derived.Lib.LaidTab
import Derived.Lib.AtoiErrMem
import Derived.Stop.LaidErr
import Derived.ReadAgain
import Derived.ChangeSlices
import Derived.OpenShut
import Derived.ProofKit
import Derived.Deep.DeepHandedRow
import Derived.Deep.SlicePairs
import Derived.Test.YtglpfpdomnllkaaGreatXt01
import Derived.Test.YtglpfpdomnllkaaGreatXt02
import Derived.Test.YtglpfpdomnllkaaGreatXt03
import Derived.Test.YtglpfpdomnllkaaGreatXt04
import Derived.Test.YtglpfpdomnllkaaGreatXt05
import Derived.Test.YtglpfpdomnllkaaGreatXt06
import Derived.Test.YtglpfpdomnllkaaGreatXt07
import Derived.Test.YtglpfpdomnllkaaGreatY7901
import Derived.Test.YtglpfpdomnllkaaGreatY7902
import Derived.Test.YtglpfpdomnllkaaGreatY7903
import Derived.Test.YtglpfpdomnllkaaGreatY7904
set_option linter.all false

namespace Go.Proofs.YtglpfpdomnllkaaGreat
set_option maxRecDepth 100000
theorem idL_VP (n : Nat) : VP n (idL n) := ⟨idL_isP n, by rw [idL_len]⟩
theorem rev_at {n : Nat} {x : Int} (h0 : 0 ≤ x) (h1 : x < n) : atD 0 (revP n) x = n - 1 - x := map_atD (fun x => (n : Int) - 1 - x) h0 h1
theorem rev_len (n : Nat) : (revP n).length = n := by simp [revP]
theorem VP_of {n : Nat} {l : List Int} (hl : l.length = n) (f g : Int → Int) (hf : ∀ x : Int, 0 ≤ x → x < n → atD 0 l x = f x) (hr : ∀ x : Int, 0 ≤ x → x < n → 0 ≤ f x ∧ f x < n) (hg : ∀ x : Int, 0 ≤ x → x < n → g (f x) = x) : VP n l := by
 refine ⟨⟨fun x x0 x1 => ?_, fun x y x0 x1 y0 y1 e => ?_⟩, hl⟩
 ·rw [hl] at x1 ⊢; rw [hf x x0 x1]; exact hr x x0 x1
 ·rw [hl] at x1 y1
  rw [hf x x0 x1, hf y y0 y1] at e
  rw [← hg x x0 x1, e, hg y y0 y1]
theorem VP.inv_eq {n : Nat} {p : List Int} (h : VP n p) (g : Int → Int) (hr : ∀ x : Int, 0 ≤ x → x < n → 0 ≤ g x ∧ g x < n ∧ atD 0 p (g x) = x) {y : Int} (h0 : 0 ≤ y) (h1 : y < n) : atD 0 (invL p) y = g y := by
 obtain ⟨a, b, c⟩ := hr y h0 h1
 have := h.qp a b
 rwa [c] at this
theorem rev_VP (n : Nat) : VP n (revP n) := VP_of (rev_len n) (fun x => n - 1 - x) (fun x => n - 1 - x) (fun x a b => rev_at a b) (fun x a b => by omega) (fun x a b => by omega)
theorem rev_inv {n : Nat} {y : Int} (h0 : 0 ≤ y) (h1 : y < n) : atD 0 (invL (revP n)) y = n - 1 - y := (rev_VP n).inv_eq (fun y => n - 1 - y) (fun x a b => ⟨by omega, by omega, by rw [rev_at (by omega) (by omega)]; omega⟩) h0 h1
theorem id_inv {n : Nat} {y : Int} (h0 : 0 ≤ y) (h1 : y < n) : atD 0 (invL (idL n)) y = y := (idL_VP n).inv_eq (fun y => y) (fun x a b => ⟨a, b, idL_at a b⟩) h0 h1
section
variable {n : Nat} {p : List Int}
theorem VP.fl_at (h : VP n p) {x : Int} (h0 : 0 ≤ x) (h1 : x < n) : atD 0 (flP p) x = n - 1 - atD 0 p (n - 1 - x) := by
 unfold flP
 rw [h.2]
 exact map_atD (fun x => (n : Int) - 1 - atD 0 p (n - 1 - x)) h0 h1
theorem VP.co_at (h : VP n p) {x : Int} (h0 : 0 ≤ x) (h1 : x < n) : atD 0 (coP p) x = n - 1 - atD 0 (invL p) x := by
 unfold coP
 rw [h.2]
 exact map_atD (fun x => (n : Int) - 1 - atD 0 (invL p) x) h0 h1
theorem VP.fl (h : VP n p) : VP n (flP p) := VP_of (by unfold flP; simp [h.2]) (fun x => n - 1 - atD 0 p (n - 1 - x)) (fun x => n - 1 - atD 0 (invL p) (n - 1 - x)) (fun x a b => h.fl_at a b)
 (fun x a b => by have := h.rg (x := n - 1 - x) (by omega) (by omega); omega)
 (fun x a b => by rw [show (n : Int) - 1 - (n - 1 - atD 0 p (n - 1 - x)) = atD 0 p (n - 1 - x) by omega, h.qp (by omega) (by omega)]; omega)
theorem VP.co (h : VP n p) : VP n (coP p) := VP_of (by unfold coP; simp [h.2]) (fun x => n - 1 - atD 0 (invL p) x) (fun x => atD 0 p (n - 1 - x)) (fun x a b => h.co_at a b)
 (fun x a b => by have := h.inv.rg a b; omega)
 (fun x a b => by rw [show (n : Int) - 1 - (n - 1 - atD 0 (invL p) x) = atD 0 (invL p) x by omega, h.pq a b])
theorem VP.fl_inv (h : VP n p) {y : Int} (h0 : 0 ≤ y) (h1 : y < n) : atD 0 (invL (flP p)) y = n - 1 - atD 0 (invL p) (n - 1 - y) :=
 h.fl.inv_eq (fun y => n - 1 - atD 0 (invL p) (n - 1 - y)) (fun x a b => by
  have := h.inv.rg (x := n - 1 - x) (by omega) (by omega)
  refine ⟨by omega, by omega, ?_⟩
  rw [h.fl_at (by omega) (by omega), show (n : Int) - 1 - (n - 1 - atD 0 (invL p) (n - 1 - x)) = atD 0 (invL p) (n - 1 - x) by omega, h.pq (by omega) (by omega)]
  omega) h0 h1
theorem VP.co_inv (h : VP n p) {y : Int} (h0 : 0 ≤ y) (h1 : y < n) : atD 0 (invL (coP p)) y = atD 0 p (n - 1 - y) :=
 h.co.inv_eq (fun y => atD 0 p (n - 1 - y)) (fun x a b => by
  have := h.rg (x := n - 1 - x) (by omega) (by omega)
  refine ⟨by omega, by omega, ?_⟩
  rw [h.co_at (by omega) (by omega), h.qp (by omega) (by omega)]
  omega) h0 h1
theorem VP.ne (h : VP n p) {j : Nat} (hj : j + 1 < n) : atD 0 p (j : Int) ≠ atD 0 p ((j : Int) + 1) := fun e => by
 have := h.pi (x := (j : Int)) (y := (j : Int) + 1) (by omega) (by omega) (by omega) (by omega) e
 omega
theorem VP.up (h : VP n p) (k : ∀ i, i + 1 < n → bgP p i = false) : ∀ x : Int, 0 ≤ x → x < n → atD 0 p x = x := by
 have st : ∀ j : Nat, j + 1 < n → atD 0 p (j : Int) < atD 0 p ((j : Int) + 1) := fun j hj => by
  have a := k j hj
  unfold bgP at a
  have a := of_decide_eq_false a
  have b := h.ne hj
  omega
 have lo : ∀ j : Nat, j < n → (j : Int) ≤ atD 0 p j := by
  intro j
  induction j with
  | zero => intro hj; exact (h.rg (x := ((0 : Nat) : Int)) (by omega) (by omega)).1
  | succ j ih =>
   intro hj
   have := ih (by omega)
   have := st j hj
   rw [show ((j + 1 : Nat) : Int) = (j : Int) + 1 by omega]
   omega
 have hi : ∀ d j : Nat, j + d + 1 = n → atD 0 p j ≤ j := by
  intro d
  induction d with
  | zero =>
   intro j hj
   have := (h.rg (x := (j : Int)) (by omega) (by omega)).2
   omega
  | succ d ih =>
   intro j hj
   have a := ih (j + 1) (by omega)
   have b := st j (by omega)
   rw [show ((j + 1 : Nat) : Int) = (j : Int) + 1 by omega] at a
   omega
 intro x x0 x1
 obtain ⟨j, rfl⟩ : ∃ j : Nat, x = j := ⟨x.toNat, by omega⟩
 have a := lo j (by omega)
 have b := hi (n - 1 - j) j (by omega)
 omega
theorem VP.down (h : VP n p) (k : ∀ i, i + 1 < n → bgP p i = true) : ∀ x : Int, 0 ≤ x → x < n → atD 0 p x = n - 1 - x := by
 have hv : VP n ((List.range n).map fun (i : Nat) => (n : Int) - 1 - atD 0 p i) := VP_of (by simp) (fun x => n - 1 - atD 0 p x) (fun x => atD 0 (invL p) (n - 1 - x)) (fun x a b => map_atD (fun x => (n : Int) - 1 - atD 0 p x) a b)
  (fun x a b => by have := h.rg a b; omega) (fun x a b => by rw [show (n : Int) - 1 - (n - 1 - atD 0 p x) = atD 0 p x by omega, h.qp a b])
 have hu := hv.up fun i hi => by
  have a := k i hi
  unfold bgP at a ⊢
  have a := of_decide_eq_true a
  rw [map_atD (fun x => (n : Int) - 1 - atD 0 p x) (by omega) (by omega), map_atD (fun x => (n : Int) - 1 - atD 0 p x) (by omega) (by omega)]
  exact decide_eq_false (by omega)
 intro x x0 x1
 have := hu x x0 x1
 rw [map_atD (fun x => (n : Int) - 1 - atD 0 p x) x0 x1] at this
 omega
end
noncomputable def garN (n : Nat) : GarT (List Int) where
 N := n - 1
 V := VP n
 B := bgP
 E := edP
 fr := swpL
 bk := bkP
 ht := htP
 K := n * (n * n) + 1
 vfr h hi := h.fr (by omega)
 vbk h hi := h.bk (by omega)
 hK h := ht_lt h
 lbk h hi he := ht_bk h (by omega) he
 farF {b i j} h hi hj hf := by
  have hi : i + 1 < n := by omega
  have hj : j + 1 < n := by omega
  refine ⟨?_, ?_, ?_⟩
  ·rw [h.bg_fr hi, sw_out (by omega) (by omega), sw_out (by omega) (by omega)]; rfl
  ·rw [h.bg_fr hj, sw_out (by omega) (by omega), sw_out (by omega) (by omega)]; rfl
  ·refine ((h.fr hi).fr hj).ext ((h.fr hj).fr hi).2 fun x x0 x1 => ?_
   have a := VP.sw_in hi x0 x1
   have b := VP.sw_in hj x0 x1
   rw [(h.fr hi).fr_at hj x0, h.fr_at hi b.1, (h.fr hj).fr_at hi x0, h.fr_at hj a.1, sw_far (i := (i : Int)) (j := (j : Int)) (by omega)]
 farB {b i j} h hi hj hf := by
  have hi : i + 1 < n := by omega
  have hj : j + 1 < n := by omega
  refine ⟨?_, ?_, ?_⟩
  ·rw [h.ed_bk hi, sw_out (by omega) (by omega), sw_out (by omega) (by omega)]; rfl
  ·rw [h.ed_bk hj, sw_out (by omega) (by omega), sw_out (by omega) (by omega)]; rfl
  ·refine ((h.bk hi).bk hj).ext ((h.bk hj).bk hi).2 fun x x0 x1 => ?_
   rw [(h.bk hi).bk_at hj x0 x1, h.bk_at hi x0 x1, (h.bk hj).bk_at hi x0 x1, h.bk_at hj x0 x1, sw_far (i := (i : Int)) (j := (j : Int)) (by omega)]
 nearF {b i} h hi h1 h2 := by
  have hi : i + 1 < n := by omega
  have hj : i + 1 + 1 < n := by omega
  unfold bgP at h1 h2
  have h1 := of_decide_eq_true h1
  have h2 := of_decide_eq_true h2
  have c : ((i + 1 : Nat) : Int) = (i : Int) + 1 := by omega
  rw [c] at h2
  refine ⟨⟨?_, ?_⟩, ⟨?_, ?_⟩, ?_⟩
  ·rw [h.bg_fr hi, c, sw_out (by omega) (by omega), sw_r]; exact decide_eq_true (by omega)
  ·rw [(h.fr hi).bg_fr hj, c, sw_l, sw_out (by omega) (by omega), h.fr_at hi (by omega), h.fr_at hi (by omega), sw_out (by omega) (by omega), sw_l]; exact decide_eq_true (by omega)
  ·rw [h.bg_fr hj, c, sw_l, sw_out (by omega) (by omega)]; exact decide_eq_true (by omega)
  ·rw [(h.fr hj).bg_fr hi, c, sw_out (by omega) (by omega), sw_r, h.fr_at hj (by omega), h.fr_at hj (by omega), c, sw_r, sw_out (by omega) (by omega)]; exact decide_eq_true (by omega)
  ·refine (((h.fr hi).fr hj).fr hi).ext (((h.fr hj).fr hi).fr hj).2 fun x x0 x1 => ?_
   have a := VP.sw_in hi x0 x1
   have b := VP.sw_in hj x0 x1
   have a2 := VP.sw_in hj a.1 a.2
   have b2 := VP.sw_in hi b.1 b.2
   rw [((h.fr hi).fr hj).fr_at hi x0, (h.fr hi).fr_at hj a.1, h.fr_at hi a2.1, ((h.fr hj).fr hi).fr_at hj x0, (h.fr hj).fr_at hi b.1, h.fr_at hj b2.1, c, sw_near]
 nearB {b i} h hi h1 h2 := by
  have hi : i + 1 < n := by omega
  have hj : i + 1 + 1 < n := by omega
  unfold edP bgP at h1 h2
  have h1 := of_decide_eq_false h1
  have h2 := of_decide_eq_false h2
  have c : ((i + 1 : Nat) : Int) = (i : Int) + 1 := by omega
  rw [c] at h2
  refine ⟨⟨?_, ?_⟩, ⟨?_, ?_⟩, ?_⟩
  ·rw [h.ed_bk hi, c, sw_out (by omega) (by omega), sw_r]; exact decide_eq_false (by omega)
  ·rw [(h.bk hi).ed_bk hj, c, sw_l, sw_out (by omega) (by omega), h.bk_inv hi, h.inv.fr_at hi (by omega), h.inv.fr_at hi (by omega), sw_out (by omega) (by omega), sw_l]; exact decide_eq_false (by omega)
  ·rw [h.ed_bk hj, c, sw_l, sw_out (by omega) (by omega)]; exact decide_eq_false (by omega)
  ·rw [(h.bk hj).ed_bk hi, c, sw_out (by omega) (by omega), sw_r, h.bk_inv hj, h.inv.fr_at hj (by omega), h.inv.fr_at hj (by omega), c, sw_r, sw_out (by omega) (by omega)]; exact decide_eq_false (by omega)
  ·refine (((h.bk hi).bk hj).bk hi).ext (((h.bk hj).bk hi).bk hj).2 fun x x0 x1 => ?_
   rw [((h.bk hi).bk hj).bk_at hi x0 x1, (h.bk hi).bk_at hj x0 x1, h.bk_at hi x0 x1, ((h.bk hj).bk hi).bk_at hj x0 x1, (h.bk hj).bk_at hi x0 x1, h.bk_at hj x0 x1, c, sw_near]
 mid {b i j} h hi hj h1 h2 := by
  have hi : i + 1 < n := by omega
  have hj : j + 1 < n := by omega
  unfold bgP at h1
  unfold edP bgP at h2
  have h1 := of_decide_eq_true h1
  have h2 := of_decide_eq_false h2
  have ne := h.inv.ne hj
  refine ⟨?_, ?_, ?_⟩
  ·rw [h.ed_fr hi hj]
   refine decide_eq_false fun k => ?_
   have := sw_lt (i := (i : Int)) (a := atD 0 (invL b) j) (b := atD 0 (invL b) ((j : Int) + 1)) (by omega) fun e => by
    have e1 := h.pq (x := (j : Int)) (by omega) (by omega)
    have e2 := h.pq (x := (j : Int) + 1) (by omega) (by omega)
    rw [e.1] at e1
    rw [e.2] at e2
    omega
   omega
  ·rw [h.bg_bk hj hi]
   refine decide_eq_true (sw_lt h1 fun e => ?_)
   have e1 := h.qp (x := (i : Int)) (by omega) (by omega)
   have e2 := h.qp (x := (i : Int) + 1) (by omega) (by omega)
   rw [e.2] at e1
   rw [e.1] at e2
   omega
  ·refine ((h.bk hj).fr hi).ext ((h.fr hi).bk hj).2 fun x x0 x1 => ?_
   have a := VP.sw_in hi x0 x1
   rw [(h.bk hj).fr_at hi x0, h.bk_at hj a.1 a.2, (h.fr hi).bk_at hj x0 x1, h.fr_at hi x0]
 e := idL n
 D := revP n
 fl := flP
 co := coP
 ve := idL_VP n
 vD := rev_VP n
 vfl h := h.fl
 vco h := h.co
 Be {i} hi := by
  unfold bgP
  rw [idL_at (by omega) (by omega), idL_at (by omega) (by omega)]
  exact decide_eq_false (by omega)
 ED {i} hi := by
  unfold edP bgP
  rw [rev_inv (by omega) (by omega), rev_inv (by omega) (by omega)]
  exact decide_eq_true (by omega)
 isE {b} h k := by
  have hu := h.inv.up fun i hi => k i (by omega)
  refine h.ext (idL_len n) fun x x0 x1 => ?_
  have e := h.pq x0 x1
  rw [hu x x0 x1] at e
  rw [e, idL_at x0 x1]
 isD {b} h k := by
  have hu := h.inv.down fun i hi => k i (by omega)
  refine h.ext (rev_len n) fun x x0 x1 => ?_
  have e := h.pq (x := n - 1 - x) (by omega) (by omega)
  rw [hu _ (by omega) (by omega), show (n : Int) - 1 - (n - 1 - x) = x by omega] at e
  rw [e, rev_at x0 x1]
 Ebk {b i} h hi := by
  have hi : i + 1 < n := by omega
  rw [h.ed_bk hi, sw_r, sw_l]
  unfold edP bgP
  have := h.inv.ne hi
  by_cases k : atD 0 (invL b) ((i : Int) + 1) < atD 0 (invL b) (i : Int)
  ·rw [decide_eq_false (by omega), decide_eq_true k]; rfl
  ·rw [decide_eq_true (by omega), decide_eq_false k]; rfl
 bkbk {b i} h hi := by
  have hi : i + 1 < n := by omega
  refine ((h.bk hi).bk hi).ext h.2 fun x x0 x1 => ?_
  rw [(h.bk hi).bk_at hi x0 x1, h.bk_at hi x0 x1, sw_sw]
 letB {i} hi := by
  have hi : i + 1 < n := by omega
  rw [(idL_VP n).bg_fr hi, sw_r, sw_l, idL_at (by omega) (by omega), idL_at (by omega) (by omega)]
  exact decide_eq_true (by omega)
 letF {i} hi := by
  have hi : i + 1 < n := by omega
  have h := idL_VP n
  refine ((h.fr hi).fr hi).ext h.2 fun x x0 x1 => ?_
  rw [(h.fr hi).fr_at hi x0, h.fr_at hi (VP.sw_in hi x0 x1).1, sw_sw]
 letK {i} hi := by
  have hi : i + 1 < n := by omega
  have h := idL_VP n
  refine (h.bk hi).ext (h.fr hi).2 fun x x0 x1 => ?_
  have a := VP.sw_in hi x0 x1
  rw [h.bk_at hi x0 x1, h.fr_at hi x0, idL_at x0 x1, idL_at a.1 a.2]
 flB {a i} h hi := by
  unfold bgP
  rw [h.fl_at (by omega) (by omega), h.fl_at (by omega) (by omega), show (n : Int) - 1 - (((n - 1 - 1 - i : Nat) : Int) + 1) = i by omega, show (n : Int) - 1 - ((n - 1 - 1 - i : Nat) : Int) = i + 1 by omega]
  exact decide_eq_decide.2 (by omega)
 flE {a i} h hi := by
  unfold edP bgP
  rw [h.fl_inv (by omega) (by omega), h.fl_inv (by omega) (by omega), show (n : Int) - 1 - (((n - 1 - 1 - i : Nat) : Int) + 1) = i by omega, show (n : Int) - 1 - ((n - 1 - 1 - i : Nat) : Int) = i + 1 by omega]
  exact decide_eq_decide.2 (by omega)
 flfr {a i} h hi := by
  have hi : i + 1 < n := by omega
  have hj : n - 1 - 1 - i + 1 < n := by omega
  refine (h.fr hi).fl.ext (h.fl.fr hj).2 fun x x0 x1 => ?_
  have b := VP.sw_in hj x0 x1
  rw [(h.fr hi).fl_at x0 x1, h.fr_at hi (by omega), h.fl.fr_at hj x0, h.fl_at b.1 b.2, sw_rev (i := (i : Int)) (by omega)]
 flbk {a i} h hi := by
  have hi : i + 1 < n := by omega
  have hj : n - 1 - 1 - i + 1 < n := by omega
  refine (h.bk hi).fl.ext (h.fl.bk hj).2 fun x x0 x1 => ?_
  have b := h.rg (x := n - 1 - x) (by omega) (by omega)
  rw [(h.bk hi).fl_at x0 x1, h.bk_at hi (by omega) (by omega), h.fl.bk_at hj x0 x1, h.fl_at x0 x1, ← sw_rev (n := (n : Int)) (i := ((n - 1 - 1 - i : Nat) : Int)) (j := (i : Int)) (by omega)]
 flfl {a} h := by
  refine h.fl.fl.ext h.2 fun x x0 x1 => ?_
  rw [h.fl.fl_at x0 x1, h.fl_at (by omega) (by omega), show (n : Int) - 1 - (n - 1 - x) = x by omega]
  omega
 fle := by
  have h := idL_VP n
  refine h.fl.ext h.2 fun x x0 x1 => ?_
  rw [h.fl_at x0 x1, idL_at (by omega) (by omega), idL_at x0 x1]
  omega
 flD := by
  have h := rev_VP n
  refine h.fl.ext h.2 fun x x0 x1 => ?_
  rw [h.fl_at x0 x1, rev_at (by omega) (by omega), rev_at x0 x1]
  omega
 coB {a i} h hi := by
  have hi : i + 1 < n := by omega
  unfold edP bgP
  rw [h.co_at (by omega) (by omega), h.co_at (by omega) (by omega)]
  have := h.inv.ne hi
  by_cases k : atD 0 (invL a) ((i : Int) + 1) < atD 0 (invL a) (i : Int)
  ·rw [decide_eq_false (by omega), decide_eq_true k]; rfl
  ·rw [decide_eq_true (by omega), decide_eq_false k]; rfl
 cofr {a i} h hi := by
  have hi : i + 1 < n := by omega
  refine (h.co.fr hi).ext (h.bk hi).co.2 fun x x0 x1 => ?_
  have b := VP.sw_in hi x0 x1
  rw [h.co.fr_at hi x0, h.co_at b.1 b.2, (h.bk hi).co_at x0 x1, h.bk_inv hi, h.inv.fr_at hi x0]
 coD := by
  have h := rev_VP n
  refine h.co.ext (idL_len n) fun x x0 x1 => ?_
  rw [h.co_at x0 x1, rev_inv x0 x1, idL_at x0 x1]
  omega
 coe := by
  have h := idL_VP n
  refine h.co.ext (rev_len n) fun x x0 x1 => ?_
  rw [h.co_at x0 x1, id_inv x0 x1, rev_at x0 x1]
 coco {a} h := by
  refine h.co.co.ext h.fl.2 fun x x0 x1 => ?_
  rw [h.co.co_at x0 x1, h.co_inv x0 x1, h.fl_at x0 x1]
 frD {i} hi := by
  have hi : i + 1 < n := by omega
  have hj : n - 1 - 1 - i + 1 < n := by omega
  have h := rev_VP n
  refine (h.fr hj).ext (h.bk hi).2 fun x x0 x1 => ?_
  have b := VP.sw_in hj x0 x1
  rw [h.fr_at hj x0, rev_at b.1 b.2, h.bk_at hi x0 x1, rev_at x0 x1, sw_rev (i := (i : Int)) (by omega)]
end Go.Proofs.YtglpfpdomnllkaaGreat

namespace Go.Proofs.YtglpfpdomnllkaaGreat
set_option maxRecDepth 100000
theorem swp_swap {r : List Int} {p : Nat} (h : p + 1 < r.length) : swpL r p = swapL r ((p : Int) + 1) :=
 ext_atD (by rw [swp_length, swapL_len]) fun j j0 j1 => by
  rw [swp_atD h j0, swapL_at (by omega) (by omega) j0, show (p : Int) + 1 - 1 = p by omega]
theorem swapL_map {r : List Int} {k : Int} (f : Int → Int) (h1 : 1 ≤ k) (h2 : k < r.length) : (swapL r k).map f = swapL (r.map f) k := by
 have e : ∀ (l : List Int) (j : Int), 0 ≤ j → j < l.length → atD 0 (l.map f) j = f (atD 0 l j) := fun l j j0 j1 => by
  obtain ⟨i, rfl⟩ : ∃ i : Nat, j = i := ⟨j.toNat, by omega⟩
  exact atD_map2 (by omega)
 refine ext_atD (by rw [List.length_map, swapL_len, swapL_len, List.length_map]) fun j j0 j1 => ?_
 rw [List.length_map, swapL_len] at j1
 have hs := sw_rng (f := k - 1) (t := k) (n := r.length) ⟨by omega, by omega⟩ ⟨by omega, h2⟩ ⟨j0, j1⟩
 rw [e _ _ j0 (by rw [swapL_len]; exact j1), swapL_at h1 h2 j0, swapL_at h1 (by rw [List.length_map]; exact h2) j0, e _ _ hs.1 hs.2]
theorem row5_snoc (st w : List Int) (x : Int) : row5 st (w ++ [x]) = swapL (row5 st w) (absI x) := by
 induction w generalizing st with
 | nil => rfl
 | cons y w ih => rw [List.cons_append, row5, row5, ih]
def LetRng (k : Nat) (w : List Int) : Prop := ∀ x ∈ w, 1 ≤ absI x ∧ absI x < (k : Int)
theorem letRng_snoc {k : Nat} {w : List Int} {x : Int} (h : LetRng k w) (h1 : 1 ≤ absI x) (h2 : absI x < k) : LetRng k (w ++ [x]) := fun y hy => by
 rcases List.mem_append.1 hy with hy | hy
 ·exact h y hy
 ·rw [List.mem_singleton.1 hy]; exact ⟨h1, h2⟩
theorem row5_VP {k : Nat} {w : List Int} (h : LetRng k w) : VP k (row5 (idL k) w) :=
 ⟨row5_isP w _ (idL_isP k) (fun x hx => by rw [idL_len]; exact h x hx), by rw [row5_len, idL_len]⟩
theorem map_id_atD (l : List Int) : (idL l.length).map (atD 0 l) = l := by
 refine ext_atD (by rw [List.length_map, idL_len]) fun j j0 j1 => ?_
 rw [List.length_map, idL_len] at j1
 obtain ⟨i, rfl⟩ : ∃ i : Nat, j = i := ⟨j.toNat, by omega⟩
 rw [atD_map2 (by rw [idL_len]; omega), idL_at j0 j1]
section
variable {m : MacV} {l : List Int} {n : Int}
/-- the row is the first order, led by the letters so far; the letters are letters. -/
def RowIs (m : MacV) (l : List Int) (st : List Int × List Int) : Prop := st.1 = (row5 (idL l.length) st.2).map (atD 0 (orderM m l)) ∧ LetRng l.length st.2
theorem rowIs_stC (hr : m.ring = false) (h : LoadOk m l) (hm : meetsM m l n = false) {j : Nat} (hj : (j : Int) ≤ n) (h0 : RowIs m l (wvM m l j)) : ∀ i : Nat, i ≤ (crossM m (atL m l j)).length → RowIs m l (stC m l j i)
 | 0, _ => h0
 | i + 1, hi => by
   obtain ⟨a, b⟩ := rowIs_stC hr h hm hj h0 i (by omega)
   obtain ⟨p, hp, hst, _, hl⟩ := stC_step hr h hm hj (N := j + 1) (by omega) (i := i) (by omega)
   obtain ⟨x, hx⟩ : ∃ x, x = atD 0 (wvM m l (j + 1)).2 (stC m l j i).2.length := ⟨_, rfl⟩
   rw [← hx] at hst hl
   have hlen : (stC m l j i).1.length = l.length := by rw [a, List.length_map, row5_len, idL_len]
   have hax : absI x = (p : Int) + 1 := by
     unfold absI
     rcases hl with ⟨e, _⟩ | ⟨e, _⟩ <;> rw [e] <;> split <;> omega
   refine ⟨?_, ?_⟩
   · rw [hst]
     dsimp only
     rw [row5_snoc, hax, swapL_map _ (by omega) (by rw [row5_len, idL_len]; omega), ← a]
     exact swp_swap hp
   · rw [hst]
     exact letRng_snoc b (by omega) (by omega)
theorem rowIs_wv (hr : m.ring = false) (h : LoadOk m l) (hm : meetsM m l n = false) : ∀ j : Nat, (j : Int) ≤ n + 1 → RowIs m l (wvM m l j)
 | 0, _ => by
   have hlo := h.ok.lo
   have e : (orderM m l).length = l.length := orderM_length (by omega) h.rng h.nodup
   refine ⟨?_, fun x hx => by simp [wvM] at hx⟩
   show orderM m l = (idL l.length).map (atD 0 (orderM m l))
   rw [← e, map_id_atD]
 | j + 1, hj => by
   rw [← stC_last]
   exact rowIs_stC hr h hm (by omega) (rowIs_wv hr h hm j (by omega)) _ (Nat.le_refl _)
theorem wrd_rng (hr : m.ring = false) (h : LoadOk m l) {N : Nat} (hm : meetsM m l N = false) : LetRng l.length (wrdL m l N) := (rowIs_wv hr h hm N (by omega)).2
end
def linkF (s : List (List Int) × List Int) (x : Int) : List (List Int) × List Int := (addM s.1 (atD 0 s.2 (absI x - 1)) (atD 0 s.2 (absI x)) (sgnI x), swapL s.2 (absI x))
theorem linkGo_fold : ∀ (w : List Int) (M : List (List Int)) (st : List Int), w.foldl linkF (M, st) = (linkGo M st w, row5 st w)
 | [], _, _ => rfl
 | x :: r, M, st => by rw [List.foldl_cons, linkGo, row5]; exact linkGo_fold r _ _
theorem linkL_snoc (k : Nat) (w : List Int) (x : Int) : linkL k (w ++ [x]) = addM (linkL k w) (atD 0 (row5 (idL k) w) (absI x - 1)) (atD 0 (row5 (idL k) w) (absI x)) (sgnI x) := by
 have h := linkGo_fold (w ++ [x]) (zeroM k) (idL k)
 rw [List.foldl_append, linkGo_fold w] at h
 exact (congrArg Prod.fst h).symm
def expL (w : List Int) : Int := w.foldl (fun s x => s + sgnI x) 0
theorem expL_snoc (w : List Int) (x : Int) : expL (w ++ [x]) = expL w + sgnI x := by unfold expL; rw [List.foldl_append]; rfl
theorem sgn_eq {x : Int} (h : x ≠ 0) : max (-1) (min 1 x) = sgnI x := by unfold sgnI; split <;> omega
/-- a crossing of carriers, at their first positions, adds what its letter adds. -/
theorem woven_step {m : MacV} {l : List Int} {n : Int} (hr : m.ring = false) (h : LoadOk m l) (hm : meetsM m l n = false) {j i N : Nat} (hj : (j : Int) ≤ n) (hN : j < N) (hi : i < (crossM m (atL m l j)).length) :
  (stC m l j i).2.length < (wvM m l N).2.length ∧ (stC m l j (i + 1)).2 = (stC m l j i).2 ++ [atD 0 (wvM m l N).2 (stC m l j i).2.length] ∧ atD 0 (wvM m l N).2 (stC m l j i).2.length ≠ 0 ∧
  ∃ y, y = atD (⟨0, 0, 0, 0⟩ : CrM) (crossM m (atL m l j)) i ∧ (0 ≤ y.over ∧ y.over < l.length) ∧ (0 ≤ y.under ∧ y.under < l.length) ∧
   (0 ≤ atD 0 (invL (orderM m l)) y.over ∧ atD 0 (invL (orderM m l)) y.over < l.length) ∧ (0 ≤ atD 0 (invL (orderM m l)) y.under ∧ atD 0 (invL (orderM m l)) y.under < l.length) ∧
   linkL l.length (stC m l j (i + 1)).2 = addM (linkL l.length (stC m l j i).2) (atD 0 (invL (orderM m l)) y.over) (atD 0 (invL (orderM m l)) y.under) (sgnI (atD 0 (wvM m l N).2 (stC m l j i).2.length)) := by
 have hlo := h.ok.lo
 have e : (orderM m l).length = l.length := orderM_length (by omega) h.rng h.nodup
 have hV : VP l.length (orderM m l) := ⟨orderM_isP h, e⟩
 obtain ⟨a, b⟩ := rowIs_stC hr h hm hj (rowIs_wv hr h hm j (by omega)) i (by omega)
 obtain ⟨p, hp, hst, hz, hl⟩ := stC_step hr h hm hj hN hi
 have hlen : (stC m l j i).1.length = l.length := by rw [a, List.length_map, row5_len, idL_len]
 have hX := row5_VP b
 obtain ⟨x, hx⟩ : ∃ x, x = atD 0 (wvM m l N).2 (stC m l j i).2.length := ⟨_, rfl⟩
 rw [← hx] at hst hl ⊢
 have hax : absI x = (p : Int) + 1 := by
  unfold absI
  rcases hl with ⟨e, _⟩ | ⟨e, _⟩ <;> rw [e] <;> split <;> omega
 have hs2 := congrArg Prod.snd hst
 dsimp only at hs2
 have x0 := hX.rg (x := (p : Int)) (by omega) (by omega)
 have x1 := hX.rg (x := (p : Int) + 1) (by omega) (by omega)
 have hne := hX.ne (j := p) (by omega)
 have rp : atD 0 (stC m l j i).1 (p : Int) = atD 0 (orderM m l) (atD 0 (row5 (idL l.length) (stC m l j i).2) p) := by
  rw [a]; exact atD_map2 (by rw [row5_len, idL_len]; omega)
 have rp1 : atD 0 (stC m l j i).1 ((p : Int) + 1) = atD 0 (orderM m l) (atD 0 (row5 (idL l.length) (stC m l j i).2) ((p : Int) + 1)) := by
  rw [a]
  have := atD_map2 (l := row5 (idL l.length) (stC m l j i).2) (f := atD 0 (orderM m l)) (i := p + 1) (by rw [row5_len, idL_len]; omega)
  rwa [show ((p + 1 : Nat) : Int) = (p : Int) + 1 by omega] at this
 have o0 := hV.rg x0.1 x0.2
 have o1 := hV.rg x1.1 x1.2
 have q0 := hV.qp x0.1 x0.2
 have q1 := hV.qp x1.1 x1.2
 rw [rp, rp1] at hl
 refine ⟨hz, hs2, fun e0 => by rw [e0] at hax; unfold absI at hax; simp at hax; omega, _, rfl, ?_⟩
 rw [hs2, linkL_snoc, hax, show (p : Int) + 1 - 1 = p by omega]
 rcases hl with ⟨_, h1, h2⟩ | ⟨_, h1, h2⟩
 ·rw [h1, h2, q0, q1]
  exact ⟨o0, o1, x0, x1, rfl⟩
 ·rw [h1, h2, q0, q1]
  exact ⟨o1, o0, x1, x0, addM_symm _ (by omega)⟩
end Go.Proofs.YtglpfpdomnllkaaGreat

namespace Go.Proofs.YtglpfpdomnllkaaGreat
open Go.RowKit
set_option maxRecDepth 100000
section
variable {F : Fence} {m : Nat} {P : Program} {ops : Array Oper} {md : Region.Mode} {C : World → Prop}
def wpAnyLQIn (F : Fence) (m : Nat) (P : Program) (md : Region.Mode) (ops : Array Oper) (C : World → Prop) (n : Nat) (L : Array Bool → Act → Prop) : Nat → Array Bool → Act → Prop
 | 0, listed, a => L listed a
 | f + 1, listed, a =>
  Region.ready md ops listed ≠ [] ∧ ∀ i ∈ Region.ready md ops listed, i < n ∧ qOpIn F m P ops C i (wpAnyLQIn F m P md ops C n L f (listed.setIfInBounds i true)) a
theorem wpAnyIn_of_headQ {n g : Nat} {L : Array Bool → Act → Prop} {Q' : Exit → Act → World → Prop} (hnd : ∀ (i : Nat) o, ops[i]? = some o → ∀ c, o.op ≠ .defer c) (hL : ∀ listed a w, C w → L listed a → wpAnyIn F m P md ops Q' g listed a w) :
  ∀ (f : Nat) (listed : Array Bool) (a : Act) (w : World), C w → wpAnyLQIn F m P md ops C n L f listed a → wpAnyIn F m P md ops Q' (f + g) listed a w
 | 0, listed, a, w, hw, h => by rw [Nat.zero_add]; exact hL _ _ _ hw h
 | f + 1, listed, a, w, hw, h => by
   rw [show f + 1 + g = (f + g) + 1 by omega]
   exact ⟨fun h0 => absurd h0 h.1, fun i hi => wpOpIn_of_qOpInR (hnd i) hw (fun a' w' hw' h' => wpAnyIn_of_headQ hnd hL f _ a' w' hw' h') (h.2 i hi).2⟩
theorem wpAnyLQIn_first {n i : Nat} {oi : Oper} {v : Value} {L : Array Bool → Act → Prop} (hi : ops[i]? = some oi) (hsel : ∀ (j : Nat) (o : Oper) cs b, ops[j]? = some o → o.op ≠ .select cs b)
  (hs : Region.sinkB md ops n = true) (hc : Region.chainB md ops n = true) (hn : n < ops.size) (hin : i < n)
  (hdone : ∀ listed a, L listed a → ∀ j ∈ Region.ready md ops listed, n ≤ j) :
  ∀ (f : Nat) (listed : Array Bool) (a : Act), HeadInv md ops n listed →
   (∀ j oj, ops[j]? = some oj → j ≠ i → listed.getD j true = false → (∀ e ∈ oj.after, Region.binds md e = true → e.on ≠ i) → oi.apart ops oj = true) →
   i ∈ Region.ready md ops listed → YieldsQuiet F m P ops C oi v a →
   wpAnyLQIn F m P md ops C n L f (listed.setIfInBounds i true) (a.put oi.dst v) → wpAnyLQIn F m P md ops C n L (f + 1) listed a := by
 intro f
 induction f with
 | zero =>
  intro listed a inv _ hr hy H
  have hun := (mem_ready.1 hr).1
  refine ⟨fun h => (by rw [h] at hr; cases hr), fun j hj => ?_⟩
  have hjn : j < n := by
   rcases Nat.lt_or_ge j n with h | h
   ·exact h
   ·exact absurd hj (tail_waits hs hc hn inv _ i rfl hin hun j h)
  refine ⟨hjn, ?_⟩
  by_cases hji : j = i
  ·subst hji; exact hy.qOpIn hi H
  ·have := hdone _ _ H j (ready_mono hj hji)
   omega
 | succ f ih =>
  intro listed a inv hfree hr hy H
  have hun := (mem_ready.1 hr).1
  refine ⟨fun h => (by rw [h] at hr; cases hr), fun j hj => ?_⟩
  have hjn : j < n := by
   rcases Nat.lt_or_ge j n with h | h
   ·exact h
   ·exact absurd hj (tail_waits hs hc hn inv _ i rfl hin hun j h)
  refine ⟨hjn, ?_⟩
  by_cases hji : j = i
  ·subst hji; exact hy.qOpIn hi H
  ·have h1 := (H.2 j (ready_mono hj hji)).2
   obtain ⟨hjun, oj, hoj, hall⟩ := mem_ready.1 hj
   have hnot : ∀ e ∈ oj.after, Region.binds md e = true → e.on ≠ i := fun e he hb heq => by
    have h1 := hall e he hb
    rw [heq, getD_both hun] at h1
    cases h1
   have h2 := qOpIn_put hoj (hfree j oj hoj hji hjun hnot) (fun cs b => hsel i oi cs b hi) (fun cs b => hsel j oj cs b hoj) hy h1
   have hfree' : ∀ k ok, ops[k]? = some ok → k ≠ i → (listed.setIfInBounds j true).getD k true = false →
     (∀ e ∈ ok.after, Region.binds md e = true → e.on ≠ i) → oi.apart ops ok = true := fun k ok hk hki hun hno => by
    refine hfree k ok hk hki ?_ hno
    by_cases hjk : j = k
    ·subst hjk; exact hjun
    ·rw [getD_set_ne true hjk] at hun; exact hun
   refine qOpIn_mono (fun a' h3 => ih (listed.setIfInBounds j true) a' (inv.set hj hjn) hfree' (ready_mono hr (Ne.symm hji)) h3.1 ?_) h2
   rw [Array.setIfInBounds_comm _ _ hji]
   exact h3.2
theorem wpAnyLQIn_lex {n g : Nat} {Lq : Act → Prop} (hsel : Region.noSelect ops = true) (hs : Region.sinkB md ops n = true) (hc : Region.chainB md ops n = true) (hn : n < ops.size) :
  ∀ (l : List Oper) (k : Nat) (listed : Array Bool) (a : Act), (∀ j, j < l.length → l[j]? = ops[k + j]?) → k + l.length = n → HeadInv md ops n listed →
  Region.lexHead md ops g l.length k listed = true → wpQuietIn F m P ops C Lq l a →
  wpAnyLQIn F m P md ops C n (fun listed' a' => Region.seqB md ops g n listed' = true ∧ Lq a') l.length listed a
 | [], k, listed, a, _, hk, _, hB, h => by
   have : k = n := by simpa using hk
   subst this
   exact ⟨by simpa [Region.lexHead] using hB, h⟩
 | o :: l, k, listed, a, hl, hk, inv, hB, h => by
   have h0 : ops[k]? = some o := by simpa using (hl 0 (by simp)).symm
   simp only [List.length_cons, Region.lexHead, Bool.and_eq_true] at hB
   obtain ⟨⟨hr, hf⟩, hB'⟩ := hB
   have hkn : k < n := by simp only [List.length_cons] at hk; omega
   have hr' : k ∈ Region.ready md ops listed := by simpa using hr
   have hst : qOpIn F m P ops C k (wpQuietIn F m P ops C Lq l) a := by unfold qOpIn; simp only [h0]; exact h
   obtain ⟨v, hy, hK⟩ := yieldsQuiet_of_qOpIn h0 hst
   exact wpAnyLQIn_first h0 (Region.noSelect_spec hsel) hs hc hn hkn (fun listed' a' hL => seqB_ready hL.1) l.length listed a inv (Region.free_spec h0 hf) hr' hy
     (wpAnyLQIn_lex hsel hs hc hn l (k + 1) _ _ (fun j hj => by have := hl (j + 1) (by simp; omega); simpa [Nat.add_assoc, Nat.add_comm 1 j] using this) (by simp only [List.length_cons] at hk; omega) (inv.set hr' hkn) hB' hK)
theorem wpAnyIn_of_seq {Q' : Exit → Act → World → Prop} : ∀ (l : List Oper) (k : Nat) (listed : Array Bool) (a : Act) (w : World), (∀ j, l[j]? = ops[k + j]?) →
  Region.seqB md ops l.length k listed = true → wpListIn F m P ops Q' l a w → wpAnyIn F m P md ops Q' l.length listed a w
 | [], _, _, _, _, _, hB, h => ⟨by simpa [Region.seqB] using hB, h⟩
 | o :: l, k, listed, a, w, hl, hB, h => by
   have h0 : ops[k]? = some o := by simpa using (hl 0).symm
   simp only [List.length_cons, Region.seqB, Bool.and_eq_true, decide_eq_true_eq] at hB
   refine ⟨fun h1 => (by rw [hB.1] at h1; cases h1), fun i hi => ?_⟩
   rw [hB.1] at hi
   have hik : i = k := by simpa using hi
   subst hik
   have hw : wpOpIn F m P ops Q' i (wpListIn F m P ops Q' l) a w := by unfold wpOpIn; simp only [h0]; exact h
   exact wpOpIn_mono (fun a' w' h' => wpAnyIn_of_seq l (i + 1) _ a' w' (fun j => by have := hl (j + 1); simpa [Nat.add_assoc, Nat.add_comm 1 j] using this) hB.2 h') hw
theorem wpIn_region_qt {id : Nat} {Q : Exit → Act → World → Prop} {a : Act} {w : World} {l : List Oper} (n : Nat) (hnd : l.all (fun o => match o.op with | .defer _ => false | _ => true) = true) (hm : P.follows .mixedOrders = true) (hB : Region.lexTailB .any l.toArray n = true)
  (h : wpQuietIn F m P l.toArray (fun w' => ∃ n, w' = w.drewN n) (fun a' => ∀ w', (∃ n, w' = w.drewN n) → wpListIn F m P l.toArray Q (l.drop n) a' w') (l.take n) a) : (Code.region id l.toArray true).wpIn F m P Q a w := by
 have hnd' : ∀ (i : Nat) o, l.toArray[i]? = some o → ∀ c, o.op ≠ .defer c := by
  intro i o ho c hc
  have hm : o ∈ l := List.mem_of_getElem? (by simpa using ho)
  have := List.all_eq_true.1 hnd o hm
  rw [hc] at this
  cases this
 simp only [Region.lexTailB, Bool.and_eq_true, decide_eq_true_eq] at hB
 obtain ⟨⟨⟨⟨hsel, hn⟩, hs⟩, hc⟩, hlex⟩ := hB
 have hn' : n < l.length := by simpa using hn
 have htl : (l.take n).length = n := by simp; omega
 have hdl : (l.drop n).length = l.toArray.size - n := by simp
 have inv0 : HeadInv .any l.toArray n (Array.replicate l.toArray.size false) :=
  ⟨by simp, fun j oj _ hl => (by rw [getD_replicate_false] at hl; cases hl), fun t _ ht => getD_in (by simpa using ht) (getD_replicate_false _ _)⟩
 have H := wpAnyLQIn_lex (F := F) (m := m) (md := .any) (g := l.toArray.size - n) hsel hs hc hn (l.take n) 0 _ a (fun j hj => by
  have hj' : j < n := by rw [htl] at hj; exact hj
  simp [hj']) (by simpa using htl) inv0 (by rw [htl]; exact hlex) h
 refine wpIn_region_any hm ?_
 have := wpAnyIn_of_headQ (C := fun w' => ∃ n, w' = w.drewN n) (Q' := Q) (g := l.toArray.size - n) hnd' (fun listed a' w' hw' hL => by
  have := wpAnyIn_of_seq (md := .any) (Q' := Q) (l.drop n) n listed a' w' (fun j => by simp [List.getElem?_drop]) (by rw [hdl]; exact hL.1) (hL.2 w' hw')
  rwa [hdl] at this) _ _ _ _ ⟨1, rfl⟩ H
 rw [htl, show n + (l.toArray.size - n) = l.toArray.size by omega] at this
 exact this
end
end Go.Proofs.YtglpfpdomnllkaaGreat

namespace Go.Proofs.YtglpfpdomnllkaaGreat
open Go.RowKit
set_option maxRecDepth 100000
/-- all blocks from B on stay as they are, and those of K. -/
structure KeepNew (K : Nat → Prop) (B : Nat) (W W' : World) : Prop where
 size : W.heap.size ≤ W'.heap.size
 same : ∀ k, (B ≤ k ∨ K k) → k < W.heap.size → W'.heap[k]? = W.heap[k]?
theorem KeepNew.refl (K : Nat → Prop) (B : Nat) (W : World) : KeepNew K B W W := ⟨Nat.le_refl _, fun _ _ _ => rfl⟩
theorem KeepNew.trans {K : Nat → Prop} {B : Nat} {X Y Z : World} (h : KeepNew K B X Y) (k : KeepNew K B Y Z) : KeepNew K B X Z := ⟨Nat.le_trans h.size k.size, fun i h0 h1 => (k.same i h0 (Nat.lt_of_lt_of_le h1 h.size)).trans (h.same i h0 h1)⟩
theorem KeepNew.le {K : Nat → Prop} {B C : Nat} {X Y : World} (h : KeepNew K B X Y) (hB : B ≤ C) : KeepNew K C X Y := ⟨h.size, fun i h0 h1 => h.same i (h0.imp (fun e => Nat.le_trans hB e) id) h1⟩
theorem KeepNew.put {K : Nat → Prop} {C : Nat} {X : World} {l : Nat} (o : Obj) (hl : l < C) (hk : ¬ K l) : KeepNew K C X (X.putObj l o) := ⟨by simp [World.putObj], fun i h0 h1 => World.putObj_heap_other (fun e => by subst e; rcases h0 with h0 | h0; omega; exact hk h0)⟩
theorem KeepNew.grown {K : Nat → Prop} {C : Nat} {X Y : World} {row : Option Nat} (h : X.grownBy Y row) (hr : ∀ r, row = some r → r < C ∧ ¬ K r) : KeepNew K C X Y :=
 ⟨h.size, fun i h0 h1 => h.block i h1 (fun e => by obtain ⟨a, b⟩ := hr i e.symm; rcases h0 with h0 | h0; omega; exact b h0)⟩
/-- an invariant on what lies ahead of B. -/
def AheadOf {α : Type} (B : Nat) (I : List α → World → Prop) : Prop := ∀ s A W row, I s A → A.grownBy W row → (∀ r, row = some r → B ≤ r) → I s W
/-- the contract of such an iterator. -/
def SeqCells {α : Type} (F : Fence) (n : Nat) (P : Program) (g : Nat) (lb : Array Value) (encs : α → Array Value) (S : List α → Prop) (N : Nat) (K : Nat → Prop) (w : World) : Prop :=
 ∀ (l : Nat) (J : List α → World → Prop) (W : World), Below w.heap.size w W → AheadOf W.heap.size J →
  (∀ pre x W1, J pre W1 → W.heap.size ≤ W1.heap.size → pre.length < N → YieldAt F (n - 1) P l (encs x) W1 fun e W' => e = .returned (.bool true) ∧ J (pre ++ [x]) W' ∧ KeepNew K W.heap.size W1 W') →
  J [] W → CallsIn F n P g (#[.func (.yield l) #[] #[]] ++ lb) W fun e W' => (∃ v, e = .returned v) ∧ ∃ xs, S xs ∧ J xs W'
section
variable {F : Fence} {n : Nat} {P : Program}
theorem rangeFunc_cells {α : Type} {g : Operand} {ps : Array Tmp} {assign body : Code} {Q : Exit → Act → World → Prop} {a : Act} {w : World}
  (hro : F.round = none) (h1 : 1 ≤ n) {gf : Nat} {lb : Array Value} (hg : a.eval g = .func (.func gf) #[] lb) (hFg : F.fn gf) (eg : ∀ args w, (callFunc gf args).run P w = .ok (.enter gf args) w)
  {encs : α → Array Value} {S : List α → Prop} {N : Nat} {K : Nat → Prop} {w0 : World} (hseq : SeqCells F (n - 1) P gf lb encs S N K w0) (hK : ∀ k, K k → k < w.heap.size) (hb0 : Below w0.heap.size w0 w) (hps : ∀ x, (encs x).size = ps.size)
  (I : List α → World → Prop) (hI : AheadOf w.heap.size I) (h0 : I [] w)
  (hround : ∀ (l : Nat) (pre : List α) (x : α) (W : World), I pre W → w.heap.size + 2 ≤ W.heap.size → pre.length < N →
   assign.wpIn (F.inRound l) (n - 1 - 1) P (Exit.then (fun a1 W1 => KeepNew K w.heap.size W W1 ∧ I pre W1 ∧ ∀ W2, W1.grownBy W2 (some (w.heap.size + 1)) → I pre W2 →
    body.wpIn (F.inRound l) (n - 1 - 1) P (fun e _ W3 => e = .normal ∧ KeepNew K w.heap.size W2 W3 ∧ I (pre ++ [x]) W3) a1 W2) (fun _ _ _ => False)) { tmps := (ps.zip (encs x)).foldl (fun t (p, v) => t.setIfInBounds p v) a.tmps, defers := [] } W)
  (hdone : ∀ (D : Nat) (xs : List α) (W : World), w.heap.size ≤ D → S xs → I xs W → W.heap[D]? = some (.deferred (some [])) → Q .normal { a with defers := { target := .collected D, args := #[] } :: a.defers } W) :
  (Code.rangeFunc g ps assign body).wpIn F n P Q a w := by
 refine wpIn_rangeFunc ?_
 intro fn hfn
 rw [hro]
 obtain ⟨rec, hrec⟩ : ∃ rec : LoopState → Option Code → Loop, rec = fun st pe => { state := st, pending := pe, fn, tmps := a.tmps, params := ps, assign, body, defers := w.heap.size } := ⟨_, rfl⟩
 obtain ⟨W1, hW1⟩ : ∃ W1, (w.alloc (.deferred (some []))).alloc (.loop (rec .ready none)) = W1 := ⟨_, rfl⟩
 have hz : W1.heap.size = w.heap.size + 2 := by rw [← hW1]; simp
 have hL1 : W1.heap[w.heap.size + 1]? = some (.loop (rec .ready none)) := by
  rw [← hW1]; have := World.alloc_heap_new (w.alloc (.deferred (some []))) (.loop (rec .ready none)); rwa [World.size_alloc] at this
 have hK1 : W1.heap[w.heap.size]? = some (.deferred (some [])) := by
  rw [← hW1]; exact (Below.heap_alloc _ _ _ (by simp)).trans (World.alloc_heap_new w _)
 have hg1 : w.grownBy W1 none := by rw [← hW1]; exact ⟨rfl, rfl, rfl, by simp; omega, fun i hi _ => (Below.heap_alloc _ _ _ (by simp; omega)).trans (Below.heap_alloc _ _ _ hi)⟩
 have hI1 : I [] W1 := hI _ _ _ none h0 hg1 (by simp)
 have hb1 : Below w0.heap.size w0 W1 := by
  rw [← hW1]; exact hb0.trans ((((Below.refl _ w).alloc (Nat.le_refl _) _).alloc (by simp) _).mono hb0.size)
 have hK1n : ¬ K (w.heap.size + 1) := fun e => by have := hK _ e; omega
 have hIp : ∀ (s : List α) (W : World) (o : Obj), I s W → I s (W.putObj (w.heap.size + 1) o) := fun s W o h => hI _ _ _ (some (w.heap.size + 1)) h (grownBy_putObj' _ _ _) (by simp)
 refine ⟨w.heap.size + 1, [{ target := .collected w.heap.size, args := #[] }], W1, { target := .fn (.func gf) lb, args := #[.func (.yield (w.heap.size + 1)) #[] #[]] }, W1, gf,
  #[.func (.yield (w.heap.size + 1)) #[] #[]] ++ lb, W1, ?_, ?_, ?_, ?_, fun _ => h1, ?_⟩
 ·rw [← hW1, hrec]; exact run_enterLoop_outer _ _ _ _ _
 ·simp only [resolve, hg]
  simp [go_sem]
 ·intro f' hf'; simp [Target.leads] at hf'; subst hf'; exact hFg
 ·simp [invoke, go_sem, eg]
 ·have keeps : ∀ {A B : World} {row : Option Nat} {k : Nat} {o : Obj}, k < w.heap.size + 2 → A.grownBy B row → (∀ r, row = some r → W1.heap.size ≤ r) → A.heap[k]? = some o → B.heap[k]? = some o :=
   fun {A B row k o} hk hg' hr h => (hg'.block k (Array.getElem?_eq_some_iff.1 h).1 (fun e => by have := hr k e.symm; omega)).trans h
  refine (hseq (w.heap.size + 1)
   (fun pre W => I pre W ∧ W.heap[w.heap.size + 1]? = some (.loop (rec .ready none)) ∧ W.heap[w.heap.size]? = some (.deferred (some [])))
   W1 hb1
   (fun s A B row hs hg' hr => ⟨hI s A B row hs.1 hg' (fun r e => by have := hr r e; omega), keeps (by omega) hg' hr hs.2.1, keeps (by omega) hg' hr hs.2.2⟩)
   ?_ ⟨hI1, hL1, hK1⟩).mono ?_
  ·rintro pre x W ⟨hi, hl, hk⟩ hsz hlen
   have hlt : w.heap.size + 1 < W.heap.size := (Array.getElem?_eq_some_iff.1 hl).1
   have hy := run_yield (P := P) (args := encs x) hl (by rw [hrec]; exact hps x)
   rw [hrec] at hy
   refine ⟨fn, _, assign, body, hy, roundIn_of_wpIn hfn (wpIn_mono (hround _ pre x W hi (by omega) hlen) ?_)⟩
   clear hy
   intro e a1 Wa hp
   cases e with
   | normal =>
    obtain ⟨hka, hia, hbody⟩ := hp
    have hl' := (hka.same _ (.inl (by omega)) (by omega)).trans hl
    have hk' := (hka.same _ (.inl (Nat.le_refl _)) (by omega)).trans hk
    have hlt' : w.heap.size + 1 < Wa.heap.size := (Array.getElem?_eq_some_iff.1 hl').1
    refine ⟨_, run_beginRound hl' (by rw [hrec]), ?_⟩
    have hl2 : (Wa.putObj (w.heap.size + 1) (.loop { rec .ready none with state := .busy })).heap[w.heap.size + 1]? = some (.loop { rec .ready none with state := .busy }) := World.putObj_heap_same hlt'
    have hk2 : (Wa.putObj (w.heap.size + 1) (.loop { rec .ready none with state := .busy })).heap[w.heap.size]? = some (.deferred (some [])) := (World.putObj_heap_other (by omega)).trans hk'
    refine wpIn_mono (hbody _ (grownBy_putObj' _ _ _) (hIp _ _ _ hia)) ?_
    rintro e a3 W3 ⟨rfl, hk3, hi3⟩
    have hl3 := (hk3.same (w.heap.size + 1) (.inl (by omega)) (Array.getElem?_eq_some_iff.1 hl2).1).trans hl2
    have hkk3 := (hk3.same w.heap.size (.inl (Nat.le_refl _)) (Array.getElem?_eq_some_iff.1 hk2).1).trans hk2
    have hr := run_endRound (P := P) none hl3
    rw [hrec] at hr
    refine ⟨_, _, hr, rfl, ⟨hIp _ _ _ hi3, ?_, (World.putObj_heap_other (by omega)).trans hkk3⟩, ?_⟩
    ·rw [hrec]; exact World.putObj_heap_same (Array.getElem?_eq_some_iff.1 hl3).1
    ·exact ((hka.le (by omega)).trans (KeepNew.put _ (by omega) hK1n)).trans ((hk3.le (by omega)).trans (KeepNew.put _ (by omega) hK1n))
   | _ => exact hp.elim
  ·rintro e W2 ⟨⟨v, rfl⟩, xs, hS, hi, hl, hk⟩
   exact ⟨none, _, by have := run_endLoop (P := P) hl (by rw [hrec]; simp); rw [hrec] at this; exact this, hdone _ xs _ (Nat.le_refl _) hS (hIp _ _ _ hi) ((World.putObj_heap_other (by omega)).trans hk)⟩
end
end Go.Proofs.YtglpfpdomnllkaaGreat

namespace Go.Proofs.YtglpfpdomnllkaaGreat
set_option maxRecDepth 100000
/-- the letters with the strands that stand at their positions before them. -/
def csB : List Int → List Int → List (Int × Int × Int)
 | _, [] => []
 | st, x :: r => (x, atD 0 st (absI x - 1), atD 0 st (absI x)) :: csB (swapL st (absI x)) r
theorem csB_len : ∀ (w st : List Int), (csB st w).length = w.length
 | [], _ => rfl
 | x :: r, st => by rw [csB, List.length_cons, csB_len r, List.length_cons]
theorem row5_snoc2 : ∀ (a st : List Int) (x : Int), row5 st (a ++ [x]) = swapL (row5 st a) (absI x)
 | [], st, x => rfl
 | y :: r, st, x => by rw [List.cons_append, row5, row5, row5_snoc2 r]
/-- one more letter: what the iterator yields next. -/
theorem csB_snoc : ∀ (a st : List Int) (x : Int), csB st (a ++ [x]) = csB st a ++ [(x, atD 0 (row5 st a) (absI x - 1), atD 0 (row5 st a) (absI x))]
 | [], st, x => rfl
 | y :: r, st, x => by rw [List.cons_append, csB, csB, csB_snoc r, row5]; rfl
theorem csB_take (st w : List Int) {j : Nat} (h : j < w.length) : csB st (w.take (j + 1)) = csB st (w.take j) ++ [(atD 0 w j, atD 0 (row5 st (w.take j)) (absI (atD 0 w j) - 1), atD 0 (row5 st (w.take j)) (absI (atD 0 w j)))] := by
 have e : w.take (j + 1) = w.take j ++ [atD 0 w j] := by rw [List.take_succ_eq_append_getElem h]; simp [atD, h]
 rw [e, csB_snoc]
theorem row5_take (st w : List Int) {j : Nat} (h : j < w.length) : row5 st (w.take (j + 1)) = swapL (row5 st (w.take j)) (absI (atD 0 w j)) := by
 have e : w.take (j + 1) = w.take j ++ [atD 0 w j] := by rw [List.take_succ_eq_append_getElem h]; simp [atD, h]
 rw [e, row5_snoc2]
/-- a strand goes one on, another one back. -/
def incP (p : List Int) (a b : Int) : List Int := (p.set a.toNat (atD 0 p a + 1)).set b.toNat (atD 0 (p.set a.toNat (atD 0 p a + 1)) b - 1)
theorem incP_len (p : List Int) (a b : Int) : (incP p a b).length = p.length := by simp [incP]
theorem perm_fold : ∀ (w st p : List Int), IsP st → p.length = st.length → (∀ x ∈ w, 1 ≤ absI x ∧ absI x < st.length) → (∀ j : Int, 0 ≤ j → j < st.length → atD 0 p (atD 0 st j) = j) →
  (csB st w).foldl (fun p c => incP p c.2.1 c.2.2) p = invL (row5 st w)
 | [], st, p, hp, hl, _, hi => by
   rw [csB, List.foldl_nil, row5]
   refine (inv_uniq hp hl fun x x0 x1 => ?_).symm
   have hx := invL_right hp x0 x1
   have hr := (invL_isP hp).rng x x0 (by rw [invL_len]; exact x1)
   rw [invL_len] at hr
   have := hi _ hr.1 hr.2
   rw [hx] at this
   rw [this]
   exact ⟨hr.1, hr.2, hx⟩
 | x :: r, st, p, hp, hl, hf, hi => by
   obtain ⟨a, b⟩ := hf x (by simp)
   rw [csB, List.foldl_cons, row5]
   have hq := swapL_isP a b hp
   refine perm_fold r _ _ hq (by rw [incP_len, swapL_len, hl]) (fun y hy => by rw [swapL_len]; exact hf y (by simp [hy])) fun j j0 j1 => ?_
   rw [swapL_len] at j1
   have ha := hp.rng (absI x - 1) (by omega) (by omega)
   have hb := hp.rng (absI x) (by omega) b
   have hne : atD 0 st (absI x) ≠ atD 0 st (absI x - 1) := fun e => by
     have := hp.inj _ _ (by omega) b (by omega) (by omega) e
     omega
   have ia := hi (absI x - 1) (by omega) (by omega)
   have ib := hi (absI x) (by omega) b
   have key : ∀ y : Int, 0 ≤ y → y < st.length → atD 0 (incP p (atD 0 st (absI x - 1)) (atD 0 st (absI x))) y =
       if y = atD 0 st (absI x) then absI x - 1 else if y = atD 0 st (absI x - 1) then absI x else atD 0 p y := fun y y0 y1 => by
     unfold incP
     rw [atD_set hb.1 (by rw [List.length_set]; omega) y0, atD_set ha.1 (by omega) hb.1, if_neg hne, ib, atD_set ha.1 (by omega) y0, ia]
     split
     · rfl
     · split <;> omega
   rw [swapL_at a b j0]
   by_cases c1 : j = absI x - 1
   · rw [c1, show sw (absI x - 1) (absI x) (absI x - 1) = absI x by unfold sw; rw [if_pos rfl], key _ hb.1 hb.2, if_pos rfl]
   · by_cases c2 : j = absI x
     · rw [c2, show sw (absI x - 1) (absI x) (absI x) = absI x - 1 by unfold sw; rw [if_neg (by omega), if_pos rfl], key _ ha.1 ha.2, if_neg (Ne.symm hne), if_pos rfl]
     · have hj := hp.rng j j0 j1
       rw [show sw (absI x - 1) (absI x) j = j by unfold sw; rw [if_neg c1, if_neg c2], key _ hj.1 hj.2, if_neg (fun e => c2 (hp.inj _ _ j0 j1 (by omega) b e)), if_neg (fun e => c1 (hp.inj _ _ j0 j1 (by omega) (by omega) e))]
       exact hi j j0 j1
/-- the permutation of a word. -/
theorem permB_fold {n : Nat} {w : List Int} (hf : ∀ x ∈ w, 1 ≤ absI x ∧ absI x < (n : Int)) : (csB (idL n) w).foldl (fun p c => incP p c.2.1 c.2.2) (idL n) = permB n w := by
 refine perm_fold w (idL n) (idL n) (idL_isP n) rfl (fun x hx => by rw [idL_len]; exact hf x hx) fun j j0 j1 => ?_
 rw [idL_len] at j1
 rw [idL_at j0 j1, idL_at j0 j1]
end Go.Proofs.YtglpfpdomnllkaaGreat

namespace Go.Proofs.YtglpfpdomnllkaaGreat
open Go.RowKit
set_option maxHeartbeats 4000000
set_option maxRecDepth 100000
theorem babs_any (n : Int) (w : World) (h : -9223372036854775807 ≤ n) (h2 : n ≤ 9223372036854775807) :
  Calls Tryz.prog 89 #[.int .i64 n] w fun r w' => r = .returned (.int .i64 (absI n)) ∧ w = w' := by
 have hw : IntKind.i64.wrap (-n) = -n := IntWalk.i64_in _ (by omega)
 have hm : max n (-n) = absI n := by unfold absI; split <;> omega
 go_enter Tryz.func89, Tryz.ntmps89
 go_wp2
 go_ret
 exact ⟨by first | rfl | rw [← hm] | simp [hm], rfl⟩
/-- the identity while it is set. -/
def idZ (n k : Nat) : List Int := idL k ++ List.replicate (n - k) 0
theorem idZ_len {n k : Nat} (h : k ≤ n) : (idZ n k).length = n := by unfold idZ; rw [List.length_append, idL_len, List.length_replicate]; omega
theorem idZ_set {n k : Nat} (h : k < n) : (idZ n k).set (k : Int).toNat (k : Int) = idZ n (k + 1) := by
 unfold idZ
 rw [show (k : Int).toNat = k by omega, List.set_append_right _ _ (by rw [idL_len]; omega), idL_len, Nat.sub_self, show n - k = (n - (k + 1)) + 1 by omega, List.replicate_succ, List.set_cons_zero, idL_succ]
 simp
theorem bidentity_any (n : Nat) (w : World) (hn : n ≤ 1000) :
  Calls Tryz.prog 122 #[.int .i64 n] w fun r w' => ∃ v, r = .returned v ∧ OwnI w.heap.size w' v (idL n) ∧ Below w.heap.size w w' := by
 have hS0 := SL.nil w
 go_enter Tryz.func122, Tryz.ntmps122
 go_wp2_with ((with_reducible refine wpList_makeL (c := cInt) (n) (0) E_ints cInt1 wU wU (by omega) (by omega) (hS0) ?_); intro ad w1 hS1)
 have hz : List.replicate n (0 : Int) = idZ n 0 := by unfold idZ idL; simp
 rw [hz] at hS1
 go_loopw [9, 4] (fun iv _ wr => ∃ k : Nat, k ≤ n ∧ iv = .int .i64 k ∧ SL w.heap.size w wr [pOwn cInt 1 3 (.slice ad n n) (idZ n k)]) (fun iv _ _ => n - (intOf iv).toNat)
 case atStart => exact ⟨0, by omega, rfl, hS1⟩
 case round =>
  clear hS1 hz
  obtain ⟨k, hk, rfl, hSr⟩ := hrel
  have hl := idZ_len hk
  by_cases hlt : k < n
  ·have hs := idZ_set hlt
   have HS := hid hs
   have HL := hid hl
   obtain ⟨O, hO⟩ : ∃ O, O = idZ n k := ⟨_, rfl⟩
   rw [← hO] at hSr hl
   have HO := hid hO
   clear hs hO
   have hkO : (k : Int) < (O.length : Int) := by rw [hl]; omega
   go_wp2_with ((with_reducible refine wpList_storeL (u := (k : Int)) 0 E_ints cInt1 (sto_int) wU wU (hSr) wU (by first | omega | (simp; done) | (simp; omega)) (by first | omega | (simp; done) | (simp; omega)) (fun _ => wU) (fun _ => wU) ?_); intro _ w7 hS7)
   exact ⟨⟨k + 1, by omega, by go_num, by rw [← HS.out, ← HO.out]; exact hS7⟩, by simp [intOf]; omega⟩
  ·have hkk : k = n := by omega
   subst hkk
   have hid' : idZ k k = idL k := by unfold idZ; simp
   rw [hid'] at hSr
   clear hid' hl hlt
   go_wp2_with fail
   go_ret
   exact ⟨_, rfl, hSr.own 0 rfl, hSr.b⟩
end Go.Proofs.YtglpfpdomnllkaaGreat

namespace Go.Proofs.YtglpfpdomnllkaaGreat
open Go.RowKit Go.Shelf
attribute [local go_sem] Oper.semAt_some
set_option maxHeartbeats 8000000
set_option maxRecDepth 100000
section
variable {α : Type} {c : α → Value} {sz B : Nat} {K : Nat → Prop} {e : TypeId} {w0 w W' : World} {v : Value} {l : List α}
theorem Own.keepNew (h : Own c sz B e w v l) (hk : KeepNew K B w W') : Own c sz B e W' v l := by
 obtain ⟨h1, h2, h3⟩ := h
 refine ⟨h1, h2, ?_⟩
 rcases h3 with h3 | ⟨g, cap, cur, hv, hB, hg, r⟩
 ·exact .inl h3
 ·exact .inr ⟨g, cap, cur, hv, hB, by rw [hk.same g (.inl hB) ((Array.getElem?_eq_some_iff.1 hg).1)]; exact hg, r⟩
/-- an own row, told of a world behind which blocks below B have turned. -/
theorem SL.keepNew (h : SL B w0 w [pOwn c sz e v l]) (hk : KeepNew K B w W') : SL B W' W' [pOwn c sz e v l] := by
 have ho := (h.own 0 rfl).keepNew hk
 refine ⟨Below.refl _ _, Nat.le_trans h.z hk.size, fun _ => v.ownBlock, fun i p hi => ?_, fun i j k hij hj => ?_⟩
 ·rcases i with _ | i
  ·cases hi
   exact ⟨⟨ho.mono (Nat.zero_le _), rfl⟩, fun k e => (ho.lt k e).1⟩
  ·simp at hi
 ·simp at hj; omega
end
section
variable {ops : Array Oper} {rest : List Oper} {a : Act} {Q : Exit → Act → World → Prop} {w : World} {ty : TypeId} {p : String} {af : Array Edge}
theorem wpList_stoIc {x y : Operand} {pa : Addr} {u : Value} {v : Int} (hx : a.eval x = .pointer (some pa)) (hy : a.eval y = .int .i64 v) (hc : w.cell? pa = some u) (hf : w.frozen? pa = false)
  (h : wpList Tryz.prog ops Q rest (a.put none undef) (w.setCell pa (.int .i64 v))) :
  wpList Tryz.prog ops Q (⟨none, .store 3 x y, ty, p, af, none⟩ :: rest) a w := by
 refine wpList_plain rfl fun K hK' => ?_
 have hs := sto_int v w pa (by rw [hc]; rfl) hf
 unfold cInt at hs
 unfold Oper.wp
 simp only [execOp, hx, hy]
 simp [hs, Result.andThen]
 exact hK' _ _ h
end
theorem wrapP1c (p : Nat) (h : p < 1000) : IntKind.i64.wrap ((p : Int) + 1) = (p : Int) + 1 := IntWalk.i64_in _ (by omega)
theorem wrapQ1c (p : Nat) (h : p < 1000) : wrap64 ((p : Int) + 1) = (p : Int) + 1 := IntWalk.wrap64_in _ (by omega)
theorem pkBc (p K : Nat) (h : p + 1 < K) : (¬ (K : Int) ≤ (p : Int) + 1) ∧ (0 : Int) ≤ (p : Int) + 1 ∧ ¬ K ≤ p ∧ ¬ (K : Int) ≤ (p : Int) ∧ (p : Int) + 1 < K ∧ p < K := by
 refine ⟨?_, ?_, ?_, ?_, ?_, ?_⟩ <;> omega
theorem grown_setG (w : World) (k j : Nat) (u : Value) : w.grownBy (w.setCell ⟨k, j, none⟩ u) (some k) :=
 ⟨rfl, rfl, rfl, by simp [World.setCell], fun m hm hne => Below.heap_setCell _ _ _ _ (fun e => hne (by rw [e]))⟩
/-- a crossing of a word on n strands. -/
def CrOk (n : Nat) (c : Int × Int × Int) : Prop := (1 ≤ absI c.1 ∧ absI c.1 < (n : Int)) ∧ (0 ≤ c.2.1 ∧ c.2.1 < (n : Int)) ∧ (0 ≤ c.2.2 ∧ c.2.2 < (n : Int)) ∧ c.2.1 ≠ c.2.2
abbrev CrS (n : Nat) := { c : Int × Int × Int // CrOk n c }
def crV {n : Nat} (x : CrS n) : Array Value := #[.int .i64 x.1.1, .agg #[.int .i64 x.1.2.1, .int .i64 x.1.2.2]]
/-- what the iterator must find again: its two boxes and the word. -/
def crK (bn bw : Nat) (ad : Option Addr) (m k : Nat) : Prop := k = bn ∨ k = bw ∨ (0 < m ∧ ∃ b, ad = some b ∧ k = b.block)
theorem crossings1_in (mm l bn bw cap : Nat) (ad : Option Addr) (n : Nat) (ws : List Int) (hn : n ≤ 1000) (hl : ws.length ≤ 1048576) (hf : ∀ x ∈ ws, 1 ≤ absI x ∧ absI x < (n : Int)) (hm : 1 ≤ mm) (J : List (CrS n) → World → Prop)
  (W : World) (hJ : AheadOf W.heap.size J)
  (hY : ∀ pre (x : CrS n) W1, J pre W1 → W.heap.size ≤ W1.heap.size → pre.length < ws.length → YieldAt Fence.wide (mm - 1) Tryz.prog l (crV x) W1 fun e W' => e = .returned (.bool true) ∧ J (pre ++ [x]) W' ∧ KeepNew (crK bn bw ad ws.length) W.heap.size W1 W')
  (hWn : W.cell? ⟨bn, 0, none⟩ = some (.int .i64 n)) (hWw : W.cell? ⟨bw, 0, none⟩ = some (.slice ad ws.length cap)) (hS : Ints W ad cap ws) (h0 : J [] W) :
  CallsIn Fence.wide mm Tryz.prog 164 #[.func (.yield l) #[] #[], .pointer (some ⟨bn, 0, none⟩), .pointer (some ⟨bw, 0, none⟩)] W fun e W' => (∃ v, e = .returned v) ∧
   ∃ ys : List (CrS n), ys.map (·.1) = csB (idL n) ws ∧ J ys W' := by
 have HI := hid (bidentity_any n W hn)
 refine callsIn_of_wp Tryz.func164 rfl trivial ?_ rfl
 simp only [Tryz.ntmps164, List.size_toArray, List.length_cons, List.length_nil, Nat.reduceAdd, Nat.reduceSub, Array.replicate_succ, Array.replicate_zero, List.push_toArray, List.append_toArray, List.nil_append, List.cons_append]
 gi_wp2
 refine ⟨trivial, (callsIn_wide.2 HI.out).mono ?_⟩
 rintro e w2 ⟨v, rfl, ho, b2⟩
 have hS2 := SL.ofOwn ho b2
 have J2 := hJ _ _ _ none h0 (grown_of_below b2) (by simp)
 obtain ⟨g, gcap, hv, -⟩ := hS2.slice 0 rfl
 subst hv
 have z2 := hS2.z
 have hkw : ∀ bl : Nat, bl < W.heap.size → w2.heap[bl]? = W.heap[bl]? := fun bl h => b2.block bl h
 have cn2 : w2.cell? ⟨bw, 0, none⟩ = some (.slice ad ws.length cap) := (b2.cell (p := ⟨bw, 0, none⟩) (World.block_lt_of_cell? W _ hWw)).trans hWw
 have hI2 : Ints w2 ad cap ws := hS.below b2
 have hbB : ∀ b, ad = some b → 0 < ws.length → b.block < W.heap.size := fun b e h => by
  obtain ⟨b', o', hb', hcx⟩ := hS.cells (by decide) 0 0 h
  have hcx := hcx 0 (.int .i64 (atD 0 ws 0)) rfl
  rw [hb'] at e
  cases e
  exact World.block_lt_of_cell? _ _ hcx
 have hbwB : bw < W.heap.size := World.block_lt_of_cell? W _ hWw
 have HF := hid hf
 have HY := hid hY
 have HJ := hid hJ
 clear hf hY hJ hWn hWw hkw b2 HI h0 hS ho
 generalize hB : W.heap.size = B at *
 gi_wp2
 gi_loopw [12] (fun x wr => ∃ (j : Nat) (pre : List (CrS n)), j ≤ ws.length ∧ x = .int .i64 j ∧ pre.map (·.1) = csB (idL n) (ws.take j) ∧ J pre wr ∧ SL B wr wr [pOwn cInt 1 3 (.slice g (idL n).length gcap) (row5 (idL n) (ws.take j))] ∧
  wr.cell? ⟨bw, 0, none⟩ = some (.slice ad ws.length cap) ∧ Ints wr ad cap ws) (fun x _ => ws.length - (intOf x).toNat)
 case atStart => exact ⟨0, [], by omega, rfl, rfl, J2, hS2.keepNew (KeepNew.refl (crK bn bw ad ws.length) _ _), cn2, hI2⟩
 case round =>
  clear hS2 J2 cn2 hI2 z2
  obtain ⟨j, pre, hj, rfl, hpre, hJs, hSr, hcw, hIr⟩ := hrel
  have hlen : pre.length = j := by have := congrArg List.length hpre; rw [List.length_map, csB_len, List.length_take] at this; omega
  by_cases hlt : j < ws.length
  ·have hx := HF.out _ (atD_mem hlt)
   have hr5 := row5_isP (ws.take j) (idL n) (idL_isP n) (fun x hx => by rw [idL_len]; exact HF.out x (List.mem_of_mem_take hx))
   have hr5l : (row5 (idL n) (ws.take j)).length = n := by rw [row5_len, idL_len]
   have hnx := csB_take (idL n) ws hlt
   have hrx := row5_take (idL n) ws hlt
   obtain ⟨R, hR⟩ : ∃ R, R = row5 (idL n) (ws.take j) := ⟨_, rfl⟩
   rw [← hR] at hSr hr5 hr5l hnx hrx
   obtain ⟨X, hX⟩ : ∃ X, X = atD 0 ws j := ⟨_, rfl⟩
   rw [← hX] at hx hnx hrx
   obtain ⟨b, o, hb, hcx⟩ := hIr.cells (by decide) 0 j hlt
   have hcx := hcx 0 (.int .i64 X) (by rw [hX]; rfl)
   subst hb
   simp only [Nat.mul_one, Nat.add_zero] at hcx
   have hid5 := idL_len n
   have HE := hid hx
   have hX1 : -1000 ≤ X ∧ X ≤ 1000 := by have := hx; unfold absI at this; split at this <;> omega
   have HA := fun w => babs_any X w (by omega) (by omega)
   obtain ⟨p, hp⟩ : ∃ p : Nat, absI X = (p : Int) + 1 := ⟨(absI X - 1).toNat, by omega⟩
   have hp1 : p + 1 < n := by omega
   rw [hp] at HA hnx hrx
   rw [show (p : Int) + 1 - 1 = p by omega] at hnx
   have okc : CrOk n (X, atD 0 R (p : Int), atD 0 R ((p : Int) + 1)) := by
    refine ⟨hx, ?_, ?_, fun e => ?_⟩
    ·have := hr5.rng (p : Int) (by omega) (by omega); rw [hr5l] at this; exact this
    ·have := hr5.rng ((p : Int) + 1) (by omega) (by omega); rw [hr5l] at this; exact this
    ·have := hr5.inj _ _ (by omega) (by omega) (by omega) (by omega) e
     omega
   obtain ⟨G, hG, hgn, hcA, hfA, -⟩ := hSr.setOwn cInt1 0 rfl (p : Int) (by omega) (by omega) 0
   subst hG
   obtain ⟨G', hG', -, hcC, hfC, -⟩ := hSr.setOwn cInt1 0 rfl ((p : Int) + 1) (by omega) (by omega) 0
   cases hG'
   have vA : R[p]?.map cInt = some (.int .i64 (atD 0 R (p : Int))) := by
    have : p < R.length := by omega
    simp [atD, this, cInt]
   have eP1 : ((p : Int) + 1).toNat = p + 1 := by omega
   have vB : R[p + 1]?.map cInt = some (.int .i64 (atD 0 R ((p : Int) + 1))) := by
    have : p + 1 < R.length := by omega
    simp [atD, eP1, this, cInt]
   simp only [show (p : Int).toNat = p by omega, eP1] at hcA hfA hcC hfC
   rw [vA] at hcA
   rw [vB] at hcC
   rw [hid5] at hSr ⊢
   have hp9 : p < 1000 := by omega
   clear vA vB hgn eP1
   have HLN := hid hlen
   have HNX := hid hnx
   have HRX := hid hrx
   have HPRE := hid hpre
   have HL5 := hid hr5l
   obtain ⟨A0, hA0⟩ : ∃ A, A = atD 0 R (p : Int) := ⟨_, rfl⟩
   have HA0 := hid hA0
   obtain ⟨A1, hA1⟩ : ∃ A, A = atD 0 R ((p : Int) + 1) := ⟨_, rfl⟩
   have HA1 := hid hA1
   rw [← hA0] at hcA okc
   rw [← hA1] at hcC okc
   clear hA0 hA1
   have HOK := hid okc
   have HAA := hid HA
   clear HA hid5 okc hx hX1 hlen hpre hnx hrx hr5 hr5l hX hp
   gi_wp2
   refine ⟨trivial, (callsIn_wide.2 (HAA.out _)).mono ?_⟩
   rintro e w3 ⟨rfl, rfl⟩
   gi_wp2
   have hmx : Tryz.prog.follows .mixedOrders = true := by kernel_rfl
   have hwp : IntKind.i64.wrap ((p : Int) + 1) = (p : Int) + 1 := IntWalk.i64_in _ (by omega)
   refine wpIn_region_qt 12 kR hmx kR ?_
   simp only [List.take_succ_cons, List.take_zero, List.drop_succ_cons, List.drop_zero]
   refine wpQIn_val (.func (.yield l) #[] #[]) rfl (fun _ => rfl) (fun w' => by go_simp) ?_
   go_simp
   refine wpQIn_val (.int .i64 X) rfl (fun _ => rfl) (fun w' => by go_simp) ?_
   go_simp
   refine wpQIn_val (.slice (some ⟨G, 0, none⟩) n gcap) rfl (fun _ => rfl) (fun w' => by go_simp) ?_
   go_simp
   refine wpQIn_val (.int .i64 p) rfl (fun _ => rfl) (fun w' => by go_simp) ?_
   go_simp
   refine wpQIn_val (.pointer (some ⟨G, p, none⟩)) rfl (fun _ => rfl) (fun w' => by go_simp; intro h; omega) ?_
   go_simp
   refine wpQIn_load F_int wU hcA ?_
   go_simp
   refine wpQIn_val (.slice (some ⟨G, 0, none⟩) n gcap) rfl (fun _ => rfl) (fun w' => by go_simp) ?_
   go_simp
   refine wpQIn_val (.int .i64 p) rfl (fun _ => rfl) (fun w' => by go_simp) ?_
   go_simp
   refine wpQIn_val (.int .i64 ((p : Int) + 1)) rfl (fun _ => rfl) (fun w' => by go_simp) ?_
   go_simp
   refine wpQIn_val (.pointer (some ⟨G, p + 1, none⟩)) rfl (fun _ => rfl) (fun w' => by go_simp; intro h; have := h (by omega); omega) ?_
   go_simp
   refine wpQIn_load F_int wU hcC ?_
   go_simp
   refine wpQIn_val (.agg #[.int .i64 A0, .int .i64 A1]) rfl (fun _ => rfl) (fun w' => by go_simp) ?_
   go_simp
   refine wpQuietIn_nil ?_
   intro kd
   obtain ⟨w4, hw4e⟩ : ∃ w4, w4 = wr.drewN kd := ⟨_, rfl⟩
   rw [← hw4e]
   have hw4 : ∃ n, w4 = wr.drewN n := ⟨kd, hw4e⟩
   clear hw4e
   have b4 := below_drewN hw4
   have g4 := grown_of_below b4
   have hcA4 := (b4.cell (p := ⟨G, p, none⟩) (World.block_lt_of_cell? _ _ hcA)).trans hcA
   have hcC4 := (b4.cell (p := ⟨G, p + 1, none⟩) (World.block_lt_of_cell? _ _ hcC)).trans hcC
   have k4 : KeepNew (crK bn bw (some ⟨b, o, none⟩) ws.length) B wr w4 := KeepNew.grown g4 (by simp)
   have hS4 := hSr.keepNew k4
   have hcw4 := (b4.cell (p := ⟨bw, 0, none⟩) (World.block_lt_of_cell? _ _ hcw)).trans hcw
   have hI4 := hIr.below b4
   obtain ⟨fn, tmps, assign, body, hy, hRI⟩ := HY.out pre ⟨_, HOK.out⟩ w4 (HJ.out _ _ _ none hJs g4 (by simp)) hS4.z (by have := HLN.out; omega)
   unfold crV at hy
   dsimp only at hy
   have hb4 : b < w4.heap.size := Nat.lt_of_lt_of_le (World.block_lt_of_cell? _ _ hcx) b4.size
   clear hw4 b4 g4 hJs hSr hcA hcC hcw hIr k4 hfA hfC
   gi_wp2
   refine hRI.mono ?_
   rintro e W3 ⟨rfl, hJ3, hk3⟩
   have hS3 := hS4.keepNew hk3
   have hcw3 : W3.cell? ⟨bw, 0, none⟩ = some (.slice (some ⟨b, o, none⟩) ws.length cap) := by
    have := hk3.same bw (.inr (.inr (.inl rfl))) (World.block_lt_of_cell? _ _ hcw4)
    simpa [World.cell?, this] using hcw4
   have hI3 : Ints W3 (some ⟨b, o, none⟩) cap ws := hI4.keep (fun b' e => by cases e; exact hk3.same _ (.inr (.inr (.inr ⟨by omega, _, rfl, rfl⟩))) hb4)
   have hGB : B ≤ G := ((hS3.own 0 rfl).lt G rfl).1
   clear hS4 hcw4 hI4 hk3 hRI hy hcA4 hcC4 hb4
   have hRl := HL5.out
   gi_wp2
   refine wpIn_wide.2 ?_
   have hSU := hS3.drew
   obtain ⟨U, hU⟩ : ∃ U, U = W3.drew := ⟨_, rfl⟩
   rw [← hU] at hSU
   obtain ⟨G1, hG1, -, hcA, hfA, hS5⟩ := hSU.setOwn cInt1 0 rfl (p : Int) (by omega) (by omega) (atD 0 R ((p : Int) + 1))
   cases hG1
   obtain ⟨G1, hG1, -, hcB, hfB, hS6⟩ := hS5.setOwn cInt1 0 rfl ((p : Int) + 1) (by omega) (by simp; omega) (atD 0 R (p : Int))
   cases hG1
   obtain ⟨G1, hG1, -, hcC, hfC, -⟩ := hSU.setOwn cInt1 0 rfl ((p : Int) + 1) (by omega) (by omega) 0
   cases hG1
   have eP : (p : Int).toNat = p := by simp
   have eP1 : ((p : Int) + 1).toNat = p + 1 := by omega
   have vA : R[p]?.map cInt = some (.int .i64 (atD 0 R (p : Int))) := by
    have : p < R.length := by omega
    simp [atD, this, cInt]
   have vB : R[p + 1]?.map cInt = some (.int .i64 (atD 0 R ((p : Int) + 1))) := by
    have : p + 1 < R.length := by omega
    simp [atD, eP1, this, cInt]
   simp only [eP, eP1] at hcA hfA hcB hfB hcC hfC hS5 hS6
   rw [vA] at hcA
   rw [vB] at hcC
   have hcB2 : (R.set p (atD 0 R ((p : Int) + 1)))[p + 1]?.map cInt = some (.int .i64 (atD 0 R ((p : Int) + 1))) := by
    rw [List.getElem?_set_ne (by omega)]; exact vB
   rw [hcB2] at hcB
   have hsw : (R.set p (atD 0 R ((p : Int) + 1))).set (p + 1) (atD 0 R (p : Int)) = swapL R ((p : Int) + 1) := by
    unfold swapL
    rw [show (p : Int) + 1 - 1 = p by omega, eP1, eP]
   rw [hsw] at hS6
   rw [← HA0.out] at hcA hS6
   rw [← HA1.out] at hcC hcB hfB hS5 hS6
   simp only [cInt, List.set_cons_zero] at hcB hfB hS5 hS6
   obtain ⟨hkA, hkB, hkC, hkD, hkE, hkF⟩ := pkBc p n hp1
   have hw1 := wrapQ1c p hp9
   have hw2 := wrapP1c p hp9
   have hUb := hSU.b
   clear hcB2 vA vB hsw eP eP1
   go_wp2_with fail
   refine wp_regionK (C := (fun V' => Below B W3 V')) [0, 1, 2, 3, 4, 5, 6, 7, 8, 10, 11, 12] [_, _, _, _, _, _, _, _, _, _, _, _] 6 (by simp only [List.map_cons, List.map_nil, List.getElem?_toArray]; rfl) rfl kR kR kR ((by rw [hU] at hUb; exact hUb)) ?_
   refine ⟨_, yieldsK_val wU (fun w' => by with_unfolding_all exact rfl), ?_⟩
   go_frame
   refine ⟨_, yieldsK_val wU (fun w' => by with_unfolding_all exact rfl), ?_⟩
   go_frame
   refine ⟨_, yieldsK_val wU (fun w' => by with_unfolding_all exact rfl), ?_⟩
   go_frame
   refine ⟨_, yieldsK_val wU (fun w' => by with_unfolding_all exact rfl), ?_⟩
   go_frame
   refine ⟨.int .i64 ((p : Int) + 1), yieldsK_val wU (fun w' => by first | (go_simp; done) | (go_simp; rfl)), ?_⟩
   go_frame
   refine ⟨_, yieldsK_val wU (fun w' => by with_unfolding_all exact rfl), ?_⟩
   go_frame
   refine ⟨_, yieldsK_val wU (fun w' => by with_unfolding_all exact rfl), ?_⟩
   go_frame
   refine ⟨.int .i64 ((p : Int) + 1), yieldsK_val wU (fun w' => by first | (go_simp; done) | (go_simp; rfl)), ?_⟩
   go_frame
   refine ⟨.pointer (some ⟨G, p + 1, none⟩), yieldsK_val wU (fun w' => by first | (go_simp; done) | (go_simp; rfl)), ?_⟩
   go_frame
   refine ⟨_, yieldsK_val wU (fun w' => by with_unfolding_all exact rfl), ?_⟩
   go_frame
   refine ⟨_, yieldsK_val wU (fun w' => by with_unfolding_all exact rfl), ?_⟩
   go_frame
   refine ⟨.pointer (some ⟨G, p, none⟩), yieldsK_val wU (fun w' => by first | (go_simp; done) | (go_simp; rfl)), ?_⟩
   go_frame
   unfold wpPureK
   have hVd : ({ W3 with drawn := W3.drawn + 1 } : World) = W3.drew := rfl
   rw [hVd, ← hU]
   have hgU : W3.grownBy U (some G) := by rw [hU]; have h := (Below.refl W3.heap.size W3).drew; exact ⟨h.os, h.tape, h.output, h.size, fun i hi _ => h.block i hi⟩
   clear hVd hU
   refine wpAnyC_on [9, 13] kR (by simp) ?_
   simp only [List.forall_mem_cons, List.not_mem_nil, false_implies, implies_true, and_true]
   refine ⟨?_, ?_⟩
   ·refine wpOp_value (v := .int .i64 A1) (w' := U) (by rw [List.getElem?_toArray]; rfl) wU (by first | (go_simp; done) | (go_simp; rfl) | (simp [execOp, Act.eval, Result.andThen]; done)) ?_
    refine ⟨hSU.b, ?_⟩
    go_frame
    refine wpAnyC_on [13] kR (by simp) ?_
    simp only [List.forall_mem_cons, List.not_mem_nil, false_implies, implies_true, and_true]
    refine wpOp_value (v := .int .i64 A0) (w' := U) (by rw [List.getElem?_toArray]; rfl) wU (by first | (go_simp; done) | (go_simp; rfl) | (simp [execOp, Act.eval, Result.andThen]; done)) ?_
    refine ⟨hSU.b, ?_⟩
    go_frame
    refine wpAnyC_on [14] kR (by simp) ?_
    simp only [List.forall_mem_cons, List.not_mem_nil, false_implies, implies_true, and_true]
    refine wpOp_value (v := .pointer (some ⟨G, p, none⟩)) (w' := U) (by rw [List.getElem?_toArray]; rfl) wU (by first | (go_simp; done) | (go_simp; rfl) | (simp [execOp, Act.eval, Result.andThen]; done)) ?_
    refine ⟨hSU.b, ?_⟩
    go_frame
    refine wpAnyC_on [15] kR (by simp) ?_
    simp only [List.forall_mem_cons, List.not_mem_nil, false_implies, implies_true, and_true]
    refine wpOp_of_list (by rw [List.getElem?_toArray]; rfl) ?_
    refine wpList_stoIc (v := A1) wU wU hcA hfA ?_
    refine ⟨hS5.b, ?_⟩
    go_frame
    refine wpAnyC_on [16] kR (by simp) ?_
    simp only [List.forall_mem_cons, List.not_mem_nil, false_implies, implies_true, and_true]
    refine wpOp_value (v := .pointer (some ⟨G, p + 1, none⟩)) (w' := (U.setCell ⟨G, p, none⟩ (.int .i64 A1))) (by rw [List.getElem?_toArray]; rfl) wU (by first | (go_simp; done) | (go_simp; rfl) | (simp [execOp, Act.eval, Result.andThen]; done)) ?_
    refine ⟨hS5.b, ?_⟩
    go_frame
    refine wpAnyC_on [17] kR (by simp) ?_
    simp only [List.forall_mem_cons, List.not_mem_nil, false_implies, implies_true, and_true]
    refine wpOp_of_list (by rw [List.getElem?_toArray]; rfl) ?_
    refine wpList_stoIc (v := A0) wU wU hcB hfB ?_
    refine ⟨hS6.b, ?_⟩
    go_frame
    refine wpAnyC_rest [] [] rfl rfl kR kR kR hS6.b ?_
    unfold wpPure
    refine of_wpList_nil (P := Tryz.prog) (ops := #[]) ?_
    obtain ⟨U2, hU2⟩ : ∃ U2, U2 = (U.setCell ⟨G, p, none⟩ (.int .i64 A1)).setCell ⟨G, p + 1, none⟩ (.int .i64 A0) := ⟨_, rfl⟩
    have hg2 : W3.grownBy U2 (some G) := by rw [hU2]; exact (hgU.trans (grown_setG _ _ _ _)).trans (grown_setG _ _ _ _)
    rw [← hU2] at hS6 ⊢
    clear hU2 hS5 hcA hcB hcC hfA hfB hfC hkA hkB hkC hkD hkE hkF hw1
    have bX := hS6.b
    have hcw5 := (bX.cell (p := ⟨bw, 0, none⟩) hbwB).trans hcw3
    have hI5 : Ints U2 (some ⟨b, o, none⟩) cap ws := hI3.keep (fun b' e => by cases e; exact bX.block b (hbB _ rfl (by omega)))
    have hS7 := hS6.keepNew (KeepNew.refl (crK bn bw (some ⟨b, o, none⟩) ws.length) _ _)
    have hJ5 := HJ.out _ _ _ (some G) hJ3 hg2 (by rintro r e; cases e; exact hGB)
    clear bX hS6 hcw3 hI3 hJ3 hg2
    go_wp2_with fail
    gi_wp2
    go_roundw
    case rel => exact ⟨j + 1, pre ++ [⟨_, HOK.out⟩], by omega, by go_num, by rw [HNX.out, List.map_append, HPRE.out, ← HA0.out, ← HA1.out]; rfl, hJ5, by rw [HRX.out]; exact hS7, hcw5, hI5⟩
    case measure => simp [intOf]; omega
   ·refine wpOp_value (v := .int .i64 A0) (w' := U) (by rw [List.getElem?_toArray]; rfl) wU (by first | (go_simp; done) | (go_simp; rfl) | (simp [execOp, Act.eval, Result.andThen]; done)) ?_
    refine ⟨hSU.b, ?_⟩
    go_frame
    refine wpAnyC_on [9] kR (by simp) ?_
    simp only [List.forall_mem_cons, List.not_mem_nil, false_implies, implies_true, and_true]
    refine wpOp_value (v := .int .i64 A1) (w' := U) (by rw [List.getElem?_toArray]; rfl) wU (by first | (go_simp; done) | (go_simp; rfl) | (simp [execOp, Act.eval, Result.andThen]; done)) ?_
    refine ⟨hSU.b, ?_⟩
    go_frame
    refine wpAnyC_on [14] kR (by simp) ?_
    simp only [List.forall_mem_cons, List.not_mem_nil, false_implies, implies_true, and_true]
    refine wpOp_value (v := .pointer (some ⟨G, p, none⟩)) (w' := U) (by rw [List.getElem?_toArray]; rfl) wU (by first | (go_simp; done) | (go_simp; rfl) | (simp [execOp, Act.eval, Result.andThen]; done)) ?_
    refine ⟨hSU.b, ?_⟩
    go_frame
    refine wpAnyC_on [15] kR (by simp) ?_
    simp only [List.forall_mem_cons, List.not_mem_nil, false_implies, implies_true, and_true]
    refine wpOp_of_list (by rw [List.getElem?_toArray]; rfl) ?_
    refine wpList_stoIc (v := A1) wU wU hcA hfA ?_
    refine ⟨hS5.b, ?_⟩
    go_frame
    refine wpAnyC_on [16] kR (by simp) ?_
    simp only [List.forall_mem_cons, List.not_mem_nil, false_implies, implies_true, and_true]
    refine wpOp_value (v := .pointer (some ⟨G, p + 1, none⟩)) (w' := (U.setCell ⟨G, p, none⟩ (.int .i64 A1))) (by rw [List.getElem?_toArray]; rfl) wU (by first | (go_simp; done) | (go_simp; rfl) | (simp [execOp, Act.eval, Result.andThen]; done)) ?_
    refine ⟨hS5.b, ?_⟩
    go_frame
    refine wpAnyC_on [17] kR (by simp) ?_
    simp only [List.forall_mem_cons, List.not_mem_nil, false_implies, implies_true, and_true]
    refine wpOp_of_list (by rw [List.getElem?_toArray]; rfl) ?_
    refine wpList_stoIc (v := A0) wU wU hcB hfB ?_
    refine ⟨hS6.b, ?_⟩
    go_frame
    refine wpAnyC_rest [] [] rfl rfl kR kR kR hS6.b ?_
    unfold wpPure
    refine of_wpList_nil (P := Tryz.prog) (ops := #[]) ?_
    obtain ⟨U2, hU2⟩ : ∃ U2, U2 = (U.setCell ⟨G, p, none⟩ (.int .i64 A1)).setCell ⟨G, p + 1, none⟩ (.int .i64 A0) := ⟨_, rfl⟩
    have hg2 : W3.grownBy U2 (some G) := by rw [hU2]; exact (hgU.trans (grown_setG _ _ _ _)).trans (grown_setG _ _ _ _)
    rw [← hU2] at hS6 ⊢
    clear hU2 hS5 hcA hcB hcC hfA hfB hfC hkA hkB hkC hkD hkE hkF hw1
    have bX := hS6.b
    have hcw5 := (bX.cell (p := ⟨bw, 0, none⟩) hbwB).trans hcw3
    have hI5 : Ints U2 (some ⟨b, o, none⟩) cap ws := hI3.keep (fun b' e => by cases e; exact bX.block b (hbB _ rfl (by omega)))
    have hS7 := hS6.keepNew (KeepNew.refl (crK bn bw (some ⟨b, o, none⟩) ws.length) _ _)
    have hJ5 := HJ.out _ _ _ (some G) hJ3 hg2 (by rintro r e; cases e; exact hGB)
    clear bX hS6 hcw3 hI3 hJ3 hg2
    go_wp2_with fail
    gi_wp2
    go_roundw
    case rel => exact ⟨j + 1, pre ++ [⟨_, HOK.out⟩], by omega, by go_num, by rw [HNX.out, List.map_append, HPRE.out, ← HA0.out, ← HA1.out]; rfl, hJ5, by rw [HRX.out]; exact hS7, hcw5, hI5⟩
    case measure => simp [intOf]; omega
  ·-- END
   have hjj : j = ws.length := by omega
   have hys : pre.map (·.1) = csB (idL n) ws := by rw [hpre, hjj, List.take_length]
   have HYS := hid hys
   clear hpre hys
   gi_wp2
   go_end0
   exact ⟨⟨_, rfl⟩, pre, HYS.out, hJs⟩
/-- the iterator, as the law of ranges over such iterators wants it. -/
theorem crossings_cells (mm bn bw cap : Nat) (ad : Option Addr) (n : Nat) (ws : List Int) (hn : n ≤ 1000) (hl : ws.length ≤ 1048576) (hf : ∀ x ∈ ws, 1 ≤ absI x ∧ absI x < (n : Int)) (hm : 1 ≤ mm) (w : World)
  (hWn : w.cell? ⟨bn, 0, none⟩ = some (.int .i64 n)) (hWw : w.cell? ⟨bw, 0, none⟩ = some (.slice ad ws.length cap)) (hS : Ints w ad cap ws) :
  SeqCells Fence.wide mm Tryz.prog 164 #[.pointer (some ⟨bn, 0, none⟩), .pointer (some ⟨bw, 0, none⟩)] (crV (n := n)) (fun ys => ys.map (·.1) = csB (idL n) ws) ws.length (crK bn bw ad ws.length) w := fun l J W hW hJ hY h0 =>
 crossings1_in mm l bn bw cap ad n ws hn hl hf hm J W hJ hY ((hW.cell (p := ⟨bn, 0, none⟩) (World.block_lt_of_cell? w _ hWn)).trans hWn) ((hW.cell (p := ⟨bw, 0, none⟩) (World.block_lt_of_cell? w _ hWw)).trans hWw) (hS.below hW) h0
theorem crossings_any5 (a : Option Addr) (m cap : Nat) (n : Int) (w : World) :
  Calls Tryz.prog 123 #[.int .i64 n, .slice a m cap] w fun r w' =>
   r = .returned (.func (.func 164) #[] #[.pointer (some ⟨w.heap.size, 0, none⟩), .pointer (some ⟨w.heap.size + 1, 0, none⟩)]) ∧ w' = (w.alloc (.cells #[.int .i64 n] 3)).alloc (.cells #[.slice a m cap] 22) := by
 go_enter Tryz.func123, Tryz.ntmps123
 go_wp2
 go_ret
 exact ⟨rfl, rfl⟩
end Go.Proofs.YtglpfpdomnllkaaGreat

namespace Go.Proofs.YtglpfpdomnllkaaGreat
open Go.RowKit
set_option maxRecDepth 100000
section
variable {P : Program} {n r : Nat}
def Oper.noDefer (o : Oper) : Bool := match o.op with | .defer _ => false | _ => true
theorem noDefer_ne {o : Oper} (h : Oper.noDefer o = true) : ∀ c, o.op ≠ .defer c := fun c hc => by
 unfold Oper.noDefer at h
 rw [hc] at h
 cases h
theorem callsR {f : FuncId} {args : Array Value} {w : World} {R : Ending → World → Prop} (h : Calls P f args w R) : CallsIn (Fence.wide.inRound r) n P f args w R := (callsIn_wide (n := n)).2 h
theorem rowsR {row : String} {args : Array Value} {w : World} {R : Value → World → Prop} (h : Rows P row args w R) : RowsIn (Fence.wide.inRound r) n P row args w R := fun c cs _ =>
 let ⟨v, w', r, s⟩ := h c cs; ⟨v, w', r, stepsIn_wide.2 s⟩
theorem oper_wpR {o : Oper} {a : Act} {w : World} {K : Act → World → Prop} {Q Q' : Exit → Act → World → Prop} (hnd : ∀ c, o.op ≠ .defer c) (hQ : ∀ c a w, Q (.panic c) a w → Q' (.panic c) a w) (hL : LetsOut Q → LetsOut Q')
  (h : o.wp P a w K Q) : o.wpIn (Fence.wide.inRound r) n P a w K Q' := by
 refine ⟨fun _ _ => trivial, ?_⟩
 unfold Oper.wp at h
 rw [Oper.semAt_plain _ _ _ hnd]
 generalize (execOp a.eval o).run P w = res at h ⊢
 cases res with
 | ok x w' =>
  cases x with
  | value v => exact h
  | skip => exact h
  | defer d => exact h
  | enter f args =>
   refine ⟨fun h => (by simp [Fence.wide] at h), callsR (Calls.mono h fun e w'' he => ?_)⟩
   cases e with
   | returned v => exact he
   | panicked c => exact hQ _ _ _ he
   | outgrown => exact hL he
  | row row args => exact ⟨fun h => (by simp [Fence.wide] at h), rowsR h⟩
  | _ => exact absurd h (by simp [Oper.upon])
 | halt x w' =>
  cases x with
  | panic v => exact hQ _ _ _ h
  | _ => exact absurd h (by simp [Oper.upon])
theorem wpListR {ops : Array Oper} {Q Q' : Exit → Act → World → Prop} (hQ : ∀ e a w, Q e a w → Q' e a w) (hL : ¬ LetsOut Q) :
  ∀ (l : List Oper) (a : Act) (w : World), l.all Oper.noDefer = true → wpList P ops Q l a w → wpListIn (Fence.wide.inRound r) n P ops Q' l a w
 | [], a, w, _, h => hQ _ _ _ h
 | o :: l, a, w, hn, h => by
   rw [List.all_cons, Bool.and_eq_true] at hn
   unfold wpList at h
   unfold wpListIn
   split at h
   · rename_i hw
     rw [if_pos hw]
     rcases h with h | h
     · have h2 : o.wp P a w (wpListIn (Fence.wide.inRound r) n P ops Q' l) Q := by
         unfold Oper.wp at h ⊢
         generalize (execOp a.eval o).run P w = res at h ⊢
         have ih := wpListR (ops := ops) hQ hL l
         cases res with
         | ok x w' =>
           cases x with
           | value v => exact ih _ _ hn.2 h
           | skip => exact ih _ _ hn.2 h
           | defer d => exact ih _ _ hn.2 h
           | enter f args =>
             refine Calls.mono h fun e w'' he => ?_
             cases e with
             | returned v => exact ih _ _ hn.2 he
             | panicked c => exact he
             | outgrown => exact he
           | row row args => exact Rows.mono h fun v w'' he => ih _ _ hn.2 he
           | _ => exact absurd h (by simp [Oper.upon])
         | halt x w' =>
           cases x with
           | panic v => exact h
           | _ => exact absurd h (by simp [Oper.upon])
       exact oper_wpR (noDefer_ne hn.1) (fun c a w => hQ _ _ _) (fun ⟨a, w, q⟩ => ⟨a, w, hQ _ _ _ q⟩) h2
     · exact absurd h.2 hL
   · rename_i hw
     rw [if_neg hw]
     exact ⟨fun _ _ => trivial, wpListR hQ hL l _ _ hn.2 h⟩
theorem noOut {Q : Exit → Act → World → Prop} : ¬ LetsOut (fun e a w => e = .normal ∧ Q e a w) := fun h => by
 obtain ⟨_, _, h, _⟩ := h
 cases h
/-- a region that has one order, within a round. -/
theorem wpIn_regionR {id : Nat} {l : List Oper} {Q : Exit → Act → World → Prop} {a : Act} {w : World} (hn : l.all Oper.noDefer = true)
  (h : wpList P l.toArray (fun e a w => e = .normal ∧ Q e a w) l a w) : (Code.region id l.toArray false).wpIn (Fence.wide.inRound r) n P Q a w :=
 wpIn_region_lit (wpListR (fun _ _ _ h => h.2) noOut l a w hn h)
end
section
variable {P : Program} {ops : Array Oper} {rest : List Oper} {a : Act} {Q : Exit → Act → World → Prop} {α : Type} {c : α → Value} {sz bytes B : Nat} {t e : TypeId} {z v : Value} {w0 w : World} {L : List Pc} {l : List α}
/-- a store into an owned list, with what it leaves as it is. -/
theorem wpList_storeLG {d1 : Tmp} {ty1 ty2 : TypeId} {p1 p2 : String} {s x y : Operand} {af1 af2 : Array Edge} {ad : Option Addr} {n cap : Nat} {k : Int} {u : α} (i : Nat)
   (E : ETy P t e z 1 bytes) (hc1 : ∀ x, (c x).cells = #[c x]) (hsto : ∀ (u : α) (w : World) (p : Addr), (w.cell? p).isSome = true → w.frozen? p = false → (Instr.storeAt e (.pointer (some p)) (c u)).run P w = .ok () (w.setCell p (c u)))
   (hs : a.eval s = .slice ad n cap) (hx : a.eval x = .int .i64 k) (hS : SL B w0 w L) (hi : L[i]? = some (pOwn c 1 e (.slice ad n cap) l)) (h0 : 0 ≤ k) (hk : k < l.length)
   (hd : ∀ p, (a.put (some d1) p).eval (.tmp d1) = p) (hy : ∀ p, (a.put (some d1) p).eval y = c u)
   (hK : ∀ p w', SL B w0 w' (L.set i (pOwn c 1 e (.slice ad n cap) (l.set k.toNat u))) → w.grownBy w' (Value.slice ad n cap).ownBlock → wpList P ops Q rest ((a.put (some d1) p).put none undef) w') :
   wpList P ops Q (⟨some d1, .indexAddr t s x, ty1, p1, af1, none⟩ :: ⟨none, .store e (.tmp d1) y, ty2, p2, af2, none⟩ :: rest) a w := by
 obtain ⟨a', cap', e1, _⟩ := hS.slice i hi
 simp only [Value.slice.injEq] at e1
 obtain ⟨rfl, rfl, rfl⟩ := e1
 obtain ⟨b, ⟨h2, h3⟩, h4, h5⟩ := hS.upd i hi
 refine wpList_store (l := l) (B := 0) u E hc1 (hsto u) hs hx h2 h0 hk hd hy (fun p w' ho hg => hK p w' (h5 w' _ b (h3 ▸ hg) ⟨ho, h3⟩ (.inl rfl)) hg)
end
end Go.Proofs.YtglpfpdomnllkaaGreat
