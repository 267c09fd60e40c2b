/- Contracts and plain facts that the claim uses (NfS WoP ShP PtP RUA CnA NfT NfU HrP KnQ ThP ThA PtA MxA CrP). Conditions: as each one states. -/
import Derived.Test.YtglpfpdomnllkaaGreatDoorProg
import Derived.WalkKit
import Derived.WalkSpells
import Derived.Maps.AppendAt
import Derived.Deep.Quiet
import Derived.Maps.Own
import Derived.Maps.OwnSet
import Derived.Maps.Views
import Derived.WalkLawsBesides
import Derived.Laws.EntriesVeiled
import Derived.RangeFuncNested
import Derived.RangeFuncBound
import Derived.RangeFuncCalls
import Derived.RangeFuncLeaves
import Derived.RangeFuncFrom
import Derived.Shelf.Abstract
import Derived.Shelf.RegionOpen
import Derived.OwnWalkIn
import Derived.TacticsInMore
import Derived.LoopNIn
import Derived.LoopIn
import Derived.Deep.QuietTactic
import Derived.BigQuiet
import Derived.Shelf.Strings.Trim
import Derived.Shelf.Strings.SlTrimAscii
import Derived.Shelf.Strings.Repeat
import Derived.Shelf.Strings.OnBuilder
import Derived.Shelf.Strconv.Itoa1
import Derived.Shelf.Strconv.Itoa3
import Derived.Shelf.LaysM
import Derived.Ground.Names2Prog
import Derived.Lib.OthersKept
import Derived.Deep.RegionHeld3
import Derived.Deep.AppendLies
import Derived.Deep.RegionHeldLaw
import Derived.Deep.RegionLaw
import Derived.StillTail
import Derived.Laws.Tables
import Derived.IntWalk
import Derived.Laws.CopyOwn
import Derived.BigRegion
import Derived.ChangeAlike
import Derived.Shelf.Bits.Mul64
import Derived.Lib.ItoaLen
import Derived.Lib.ItoaMem
import Derived.Sort.LoopGhostIn
import Derived.Maps.RangeWalk
import Derived.Maps.Ext
import Derived.Sort.QuietThIn
import Derived.Deep.LoopGhost
import Derived.Lib.Split
import Derived.Lib.AtoiAll
import Derived.Lib.AppendIntMem
import Derived.Lib.SmallJoins
import Derived.LaidSub
import Derived.Lib.LaidTab
import Derived.Lib.AtoiErrMem
import Derived.Stop.LaidErr
import Derived.ReadAgain
import Derived.ChangeSlices
import Derived.OpenShut
import Derived.ProofKit
import Derived.Deep.DeepHandedRow
import Derived.Deep.SlicePairs
import Derived.Laws.IdiomStrings
import Derived.Test.YtglpfpdomnllkaaGreatDoorXd01
import Derived.Test.YtglpfpdomnllkaaGreatDoorXd02
import Derived.Test.YtglpfpdomnllkaaGreatDoorXd03
import Derived.Test.YtglpfpdomnllkaaGreatDoorXd04
import Derived.Test.YtglpfpdomnllkaaGreatDoorY7301
import Derived.Test.YtglpfpdomnllkaaGreatDoorY7302
import Derived.Test.YtglpfpdomnllkaaGreatDoorY7303
import Derived.Test.YtglpfpdomnllkaaGreatDoorY7304
set_option linter.all false

namespace Go.Proofs.YtglpfpdomnllkaaGreatDoor
set_option maxRecDepth 100000
theorem idL_VP (n : Nat) : VP n (idL n) := ⟨idL_isP n, by rw [idL_len]⟩
theorem rev_at {n : Nat} {x : Int} (h0 : 0 ≤ x) (h1 : x < n) : atD 0 (revP n) x = n - 1 - x := map_atD (fun x => (n : Int) - 1 - x) h0 h1
theorem rev_len (n : Nat) : (revP n).length = n := by simp [revP]
theorem VP_of {n : Nat} {l : List Int} (hl : l.length = n) (f g : Int → Int) (hf : ∀ x : Int, 0 ≤ x → x < n → atD 0 l x = f x) (hr : ∀ x : Int, 0 ≤ x → x < n → 0 ≤ f x ∧ f x < n) (hg : ∀ x : Int, 0 ≤ x → x < n → g (f x) = x) : VP n l := by
 refine ⟨⟨fun x x0 x1 => ?_, fun x y x0 x1 y0 y1 e => ?_⟩, hl⟩
 ·rw [hl] at x1 ⊢; rw [hf x x0 x1]; exact hr x x0 x1
 ·rw [hl] at x1 y1
  rw [hf x x0 x1, hf y y0 y1] at e
  rw [← hg x x0 x1, e, hg y y0 y1]
theorem VP.inv_eq {n : Nat} {p : List Int} (h : VP n p) (g : Int → Int) (hr : ∀ x : Int, 0 ≤ x → x < n → 0 ≤ g x ∧ g x < n ∧ atD 0 p (g x) = x) {y : Int} (h0 : 0 ≤ y) (h1 : y < n) : atD 0 (invL p) y = g y := by
 obtain ⟨a, b, c⟩ := hr y h0 h1
 have := h.qp a b
 rwa [c] at this
theorem rev_VP (n : Nat) : VP n (revP n) := VP_of (rev_len n) (fun x => n - 1 - x) (fun x => n - 1 - x) (fun x a b => rev_at a b) (fun x a b => by omega) (fun x a b => by omega)
theorem rev_inv {n : Nat} {y : Int} (h0 : 0 ≤ y) (h1 : y < n) : atD 0 (invL (revP n)) y = n - 1 - y := (rev_VP n).inv_eq (fun y => n - 1 - y) (fun x a b => ⟨by omega, by omega, by rw [rev_at (by omega) (by omega)]; omega⟩) h0 h1
theorem id_inv {n : Nat} {y : Int} (h0 : 0 ≤ y) (h1 : y < n) : atD 0 (invL (idL n)) y = y := (idL_VP n).inv_eq (fun y => y) (fun x a b => ⟨a, b, idL_at a b⟩) h0 h1
section
variable {n : Nat} {p : List Int}
theorem VP.fl_at (h : VP n p) {x : Int} (h0 : 0 ≤ x) (h1 : x < n) : atD 0 (flP p) x = n - 1 - atD 0 p (n - 1 - x) := by
 unfold flP
 rw [h.2]
 exact map_atD (fun x => (n : Int) - 1 - atD 0 p (n - 1 - x)) h0 h1
theorem VP.co_at (h : VP n p) {x : Int} (h0 : 0 ≤ x) (h1 : x < n) : atD 0 (coP p) x = n - 1 - atD 0 (invL p) x := by
 unfold coP
 rw [h.2]
 exact map_atD (fun x => (n : Int) - 1 - atD 0 (invL p) x) h0 h1
theorem VP.fl (h : VP n p) : VP n (flP p) := VP_of (by unfold flP; simp [h.2]) (fun x => n - 1 - atD 0 p (n - 1 - x)) (fun x => n - 1 - atD 0 (invL p) (n - 1 - x)) (fun x a b => h.fl_at a b)
 (fun x a b => by have := h.rg (x := n - 1 - x) (by omega) (by omega); omega)
 (fun x a b => by rw [show (n : Int) - 1 - (n - 1 - atD 0 p (n - 1 - x)) = atD 0 p (n - 1 - x) by omega, h.qp (by omega) (by omega)]; omega)
theorem VP.co (h : VP n p) : VP n (coP p) := VP_of (by unfold coP; simp [h.2]) (fun x => n - 1 - atD 0 (invL p) x) (fun x => atD 0 p (n - 1 - x)) (fun x a b => h.co_at a b)
 (fun x a b => by have := h.inv.rg a b; omega)
 (fun x a b => by rw [show (n : Int) - 1 - (n - 1 - atD 0 (invL p) x) = atD 0 (invL p) x by omega, h.pq a b])
theorem VP.fl_inv (h : VP n p) {y : Int} (h0 : 0 ≤ y) (h1 : y < n) : atD 0 (invL (flP p)) y = n - 1 - atD 0 (invL p) (n - 1 - y) :=
 h.fl.inv_eq (fun y => n - 1 - atD 0 (invL p) (n - 1 - y)) (fun x a b => by
  have := h.inv.rg (x := n - 1 - x) (by omega) (by omega)
  refine ⟨by omega, by omega, ?_⟩
  rw [h.fl_at (by omega) (by omega), show (n : Int) - 1 - (n - 1 - atD 0 (invL p) (n - 1 - x)) = atD 0 (invL p) (n - 1 - x) by omega, h.pq (by omega) (by omega)]
  omega) h0 h1
theorem VP.co_inv (h : VP n p) {y : Int} (h0 : 0 ≤ y) (h1 : y < n) : atD 0 (invL (coP p)) y = atD 0 p (n - 1 - y) :=
 h.co.inv_eq (fun y => atD 0 p (n - 1 - y)) (fun x a b => by
  have := h.rg (x := n - 1 - x) (by omega) (by omega)
  refine ⟨by omega, by omega, ?_⟩
  rw [h.co_at (by omega) (by omega), h.qp (by omega) (by omega)]
  omega) h0 h1
theorem VP.ne (h : VP n p) {j : Nat} (hj : j + 1 < n) : atD 0 p (j : Int) ≠ atD 0 p ((j : Int) + 1) := fun e => by
 have := h.pi (x := (j : Int)) (y := (j : Int) + 1) (by omega) (by omega) (by omega) (by omega) e
 omega
theorem VP.up (h : VP n p) (k : ∀ i, i + 1 < n → bgP p i = false) : ∀ x : Int, 0 ≤ x → x < n → atD 0 p x = x := by
 have st : ∀ j : Nat, j + 1 < n → atD 0 p (j : Int) < atD 0 p ((j : Int) + 1) := fun j hj => by
  have a := k j hj
  unfold bgP at a
  have a := of_decide_eq_false a
  have b := h.ne hj
  omega
 have lo : ∀ j : Nat, j < n → (j : Int) ≤ atD 0 p j := by
  intro j
  induction j with
  | zero => intro hj; exact (h.rg (x := ((0 : Nat) : Int)) (by omega) (by omega)).1
  | succ j ih =>
   intro hj
   have := ih (by omega)
   have := st j hj
   rw [show ((j + 1 : Nat) : Int) = (j : Int) + 1 by omega]
   omega
 have hi : ∀ d j : Nat, j + d + 1 = n → atD 0 p j ≤ j := by
  intro d
  induction d with
  | zero =>
   intro j hj
   have := (h.rg (x := (j : Int)) (by omega) (by omega)).2
   omega
  | succ d ih =>
   intro j hj
   have a := ih (j + 1) (by omega)
   have b := st j (by omega)
   rw [show ((j + 1 : Nat) : Int) = (j : Int) + 1 by omega] at a
   omega
 intro x x0 x1
 obtain ⟨j, rfl⟩ : ∃ j : Nat, x = j := ⟨x.toNat, by omega⟩
 have a := lo j (by omega)
 have b := hi (n - 1 - j) j (by omega)
 omega
theorem VP.down (h : VP n p) (k : ∀ i, i + 1 < n → bgP p i = true) : ∀ x : Int, 0 ≤ x → x < n → atD 0 p x = n - 1 - x := by
 have hv : VP n ((List.range n).map fun (i : Nat) => (n : Int) - 1 - atD 0 p i) := VP_of (by simp) (fun x => n - 1 - atD 0 p x) (fun x => atD 0 (invL p) (n - 1 - x)) (fun x a b => map_atD (fun x => (n : Int) - 1 - atD 0 p x) a b)
  (fun x a b => by have := h.rg a b; omega) (fun x a b => by rw [show (n : Int) - 1 - (n - 1 - atD 0 p x) = atD 0 p x by omega, h.qp a b])
 have hu := hv.up fun i hi => by
  have a := k i hi
  unfold bgP at a ⊢
  have a := of_decide_eq_true a
  rw [map_atD (fun x => (n : Int) - 1 - atD 0 p x) (by omega) (by omega), map_atD (fun x => (n : Int) - 1 - atD 0 p x) (by omega) (by omega)]
  exact decide_eq_false (by omega)
 intro x x0 x1
 have := hu x x0 x1
 rw [map_atD (fun x => (n : Int) - 1 - atD 0 p x) x0 x1] at this
 omega
end
noncomputable def garN (n : Nat) : GarT (List Int) where
 N := n - 1
 V := VP n
 B := bgP
 E := edP
 fr := swpL
 bk := bkP
 ht := htP
 K := n * (n * n) + 1
 vfr h hi := h.fr (by omega)
 vbk h hi := h.bk (by omega)
 hK h := ht_lt h
 lbk h hi he := ht_bk h (by omega) he
 farF {b i j} h hi hj hf := by
  have hi : i + 1 < n := by omega
  have hj : j + 1 < n := by omega
  refine ⟨?_, ?_, ?_⟩
  ·rw [h.bg_fr hi, sw_out (by omega) (by omega), sw_out (by omega) (by omega)]; rfl
  ·rw [h.bg_fr hj, sw_out (by omega) (by omega), sw_out (by omega) (by omega)]; rfl
  ·refine ((h.fr hi).fr hj).ext ((h.fr hj).fr hi).2 fun x x0 x1 => ?_
   have a := VP.sw_in hi x0 x1
   have b := VP.sw_in hj x0 x1
   rw [(h.fr hi).fr_at hj x0, h.fr_at hi b.1, (h.fr hj).fr_at hi x0, h.fr_at hj a.1, sw_far (i := (i : Int)) (j := (j : Int)) (by omega)]
 farB {b i j} h hi hj hf := by
  have hi : i + 1 < n := by omega
  have hj : j + 1 < n := by omega
  refine ⟨?_, ?_, ?_⟩
  ·rw [h.ed_bk hi, sw_out (by omega) (by omega), sw_out (by omega) (by omega)]; rfl
  ·rw [h.ed_bk hj, sw_out (by omega) (by omega), sw_out (by omega) (by omega)]; rfl
  ·refine ((h.bk hi).bk hj).ext ((h.bk hj).bk hi).2 fun x x0 x1 => ?_
   rw [(h.bk hi).bk_at hj x0 x1, h.bk_at hi x0 x1, (h.bk hj).bk_at hi x0 x1, h.bk_at hj x0 x1, sw_far (i := (i : Int)) (j := (j : Int)) (by omega)]
 nearF {b i} h hi h1 h2 := by
  have hi : i + 1 < n := by omega
  have hj : i + 1 + 1 < n := by omega
  unfold bgP at h1 h2
  have h1 := of_decide_eq_true h1
  have h2 := of_decide_eq_true h2
  have c : ((i + 1 : Nat) : Int) = (i : Int) + 1 := by omega
  rw [c] at h2
  refine ⟨⟨?_, ?_⟩, ⟨?_, ?_⟩, ?_⟩
  ·rw [h.bg_fr hi, c, sw_out (by omega) (by omega), sw_r]; exact decide_eq_true (by omega)
  ·rw [(h.fr hi).bg_fr hj, c, sw_l, sw_out (by omega) (by omega), h.fr_at hi (by omega), h.fr_at hi (by omega), sw_out (by omega) (by omega), sw_l]; exact decide_eq_true (by omega)
  ·rw [h.bg_fr hj, c, sw_l, sw_out (by omega) (by omega)]; exact decide_eq_true (by omega)
  ·rw [(h.fr hj).bg_fr hi, c, sw_out (by omega) (by omega), sw_r, h.fr_at hj (by omega), h.fr_at hj (by omega), c, sw_r, sw_out (by omega) (by omega)]; exact decide_eq_true (by omega)
  ·refine (((h.fr hi).fr hj).fr hi).ext (((h.fr hj).fr hi).fr hj).2 fun x x0 x1 => ?_
   have a := VP.sw_in hi x0 x1
   have b := VP.sw_in hj x0 x1
   have a2 := VP.sw_in hj a.1 a.2
   have b2 := VP.sw_in hi b.1 b.2
   rw [((h.fr hi).fr hj).fr_at hi x0, (h.fr hi).fr_at hj a.1, h.fr_at hi a2.1, ((h.fr hj).fr hi).fr_at hj x0, (h.fr hj).fr_at hi b.1, h.fr_at hj b2.1, c, sw_near]
 nearB {b i} h hi h1 h2 := by
  have hi : i + 1 < n := by omega
  have hj : i + 1 + 1 < n := by omega
  unfold edP bgP at h1 h2
  have h1 := of_decide_eq_false h1
  have h2 := of_decide_eq_false h2
  have c : ((i + 1 : Nat) : Int) = (i : Int) + 1 := by omega
  rw [c] at h2
  refine ⟨⟨?_, ?_⟩, ⟨?_, ?_⟩, ?_⟩
  ·rw [h.ed_bk hi, c, sw_out (by omega) (by omega), sw_r]; exact decide_eq_false (by omega)
  ·rw [(h.bk hi).ed_bk hj, c, sw_l, sw_out (by omega) (by omega), h.bk_inv hi, h.inv.fr_at hi (by omega), h.inv.fr_at hi (by omega), sw_out (by omega) (by omega), sw_l]; exact decide_eq_false (by omega)
  ·rw [h.ed_bk hj, c, sw_l, sw_out (by omega) (by omega)]; exact decide_eq_false (by omega)
  ·rw [(h.bk hj).ed_bk hi, c, sw_out (by omega) (by omega), sw_r, h.bk_inv hj, h.inv.fr_at hj (by omega), h.inv.fr_at hj (by omega), c, sw_r, sw_out (by omega) (by omega)]; exact decide_eq_false (by omega)
  ·refine (((h.bk hi).bk hj).bk hi).ext (((h.bk hj).bk hi).bk hj).2 fun x x0 x1 => ?_
   rw [((h.bk hi).bk hj).bk_at hi x0 x1, (h.bk hi).bk_at hj x0 x1, h.bk_at hi x0 x1, ((h.bk hj).bk hi).bk_at hj x0 x1, (h.bk hj).bk_at hi x0 x1, h.bk_at hj x0 x1, c, sw_near]
 mid {b i j} h hi hj h1 h2 := by
  have hi : i + 1 < n := by omega
  have hj : j + 1 < n := by omega
  unfold bgP at h1
  unfold edP bgP at h2
  have h1 := of_decide_eq_true h1
  have h2 := of_decide_eq_false h2
  have ne := h.inv.ne hj
  refine ⟨?_, ?_, ?_⟩
  ·rw [h.ed_fr hi hj]
   refine decide_eq_false fun k => ?_
   have := sw_lt (i := (i : Int)) (a := atD 0 (invL b) j) (b := atD 0 (invL b) ((j : Int) + 1)) (by omega) fun e => by
    have e1 := h.pq (x := (j : Int)) (by omega) (by omega)
    have e2 := h.pq (x := (j : Int) + 1) (by omega) (by omega)
    rw [e.1] at e1
    rw [e.2] at e2
    omega
   omega
  ·rw [h.bg_bk hj hi]
   refine decide_eq_true (sw_lt h1 fun e => ?_)
   have e1 := h.qp (x := (i : Int)) (by omega) (by omega)
   have e2 := h.qp (x := (i : Int) + 1) (by omega) (by omega)
   rw [e.2] at e1
   rw [e.1] at e2
   omega
  ·refine ((h.bk hj).fr hi).ext ((h.fr hi).bk hj).2 fun x x0 x1 => ?_
   have a := VP.sw_in hi x0 x1
   rw [(h.bk hj).fr_at hi x0, h.bk_at hj a.1 a.2, (h.fr hi).bk_at hj x0 x1, h.fr_at hi x0]
 e := idL n
 D := revP n
 fl := flP
 co := coP
 ve := idL_VP n
 vD := rev_VP n
 vfl h := h.fl
 vco h := h.co
 Be {i} hi := by
  unfold bgP
  rw [idL_at (by omega) (by omega), idL_at (by omega) (by omega)]
  exact decide_eq_false (by omega)
 ED {i} hi := by
  unfold edP bgP
  rw [rev_inv (by omega) (by omega), rev_inv (by omega) (by omega)]
  exact decide_eq_true (by omega)
 isE {b} h k := by
  have hu := h.inv.up fun i hi => k i (by omega)
  refine h.ext (idL_len n) fun x x0 x1 => ?_
  have e := h.pq x0 x1
  rw [hu x x0 x1] at e
  rw [e, idL_at x0 x1]
 isD {b} h k := by
  have hu := h.inv.down fun i hi => k i (by omega)
  refine h.ext (rev_len n) fun x x0 x1 => ?_
  have e := h.pq (x := n - 1 - x) (by omega) (by omega)
  rw [hu _ (by omega) (by omega), show (n : Int) - 1 - (n - 1 - x) = x by omega] at e
  rw [e, rev_at x0 x1]
 Ebk {b i} h hi := by
  have hi : i + 1 < n := by omega
  rw [h.ed_bk hi, sw_r, sw_l]
  unfold edP bgP
  have := h.inv.ne hi
  by_cases k : atD 0 (invL b) ((i : Int) + 1) < atD 0 (invL b) (i : Int)
  ·rw [decide_eq_false (by omega), decide_eq_true k]; rfl
  ·rw [decide_eq_true (by omega), decide_eq_false k]; rfl
 bkbk {b i} h hi := by
  have hi : i + 1 < n := by omega
  refine ((h.bk hi).bk hi).ext h.2 fun x x0 x1 => ?_
  rw [(h.bk hi).bk_at hi x0 x1, h.bk_at hi x0 x1, sw_sw]
 letB {i} hi := by
  have hi : i + 1 < n := by omega
  rw [(idL_VP n).bg_fr hi, sw_r, sw_l, idL_at (by omega) (by omega), idL_at (by omega) (by omega)]
  exact decide_eq_true (by omega)
 letF {i} hi := by
  have hi : i + 1 < n := by omega
  have h := idL_VP n
  refine ((h.fr hi).fr hi).ext h.2 fun x x0 x1 => ?_
  rw [(h.fr hi).fr_at hi x0, h.fr_at hi (VP.sw_in hi x0 x1).1, sw_sw]
 letK {i} hi := by
  have hi : i + 1 < n := by omega
  have h := idL_VP n
  refine (h.bk hi).ext (h.fr hi).2 fun x x0 x1 => ?_
  have a := VP.sw_in hi x0 x1
  rw [h.bk_at hi x0 x1, h.fr_at hi x0, idL_at x0 x1, idL_at a.1 a.2]
 flB {a i} h hi := by
  unfold bgP
  rw [h.fl_at (by omega) (by omega), h.fl_at (by omega) (by omega), show (n : Int) - 1 - (((n - 1 - 1 - i : Nat) : Int) + 1) = i by omega, show (n : Int) - 1 - ((n - 1 - 1 - i : Nat) : Int) = i + 1 by omega]
  exact decide_eq_decide.2 (by omega)
 flE {a i} h hi := by
  unfold edP bgP
  rw [h.fl_inv (by omega) (by omega), h.fl_inv (by omega) (by omega), show (n : Int) - 1 - (((n - 1 - 1 - i : Nat) : Int) + 1) = i by omega, show (n : Int) - 1 - ((n - 1 - 1 - i : Nat) : Int) = i + 1 by omega]
  exact decide_eq_decide.2 (by omega)
 flfr {a i} h hi := by
  have hi : i + 1 < n := by omega
  have hj : n - 1 - 1 - i + 1 < n := by omega
  refine (h.fr hi).fl.ext (h.fl.fr hj).2 fun x x0 x1 => ?_
  have b := VP.sw_in hj x0 x1
  rw [(h.fr hi).fl_at x0 x1, h.fr_at hi (by omega), h.fl.fr_at hj x0, h.fl_at b.1 b.2, sw_rev (i := (i : Int)) (by omega)]
 flbk {a i} h hi := by
  have hi : i + 1 < n := by omega
  have hj : n - 1 - 1 - i + 1 < n := by omega
  refine (h.bk hi).fl.ext (h.fl.bk hj).2 fun x x0 x1 => ?_
  have b := h.rg (x := n - 1 - x) (by omega) (by omega)
  rw [(h.bk hi).fl_at x0 x1, h.bk_at hi (by omega) (by omega), h.fl.bk_at hj x0 x1, h.fl_at x0 x1, ← sw_rev (n := (n : Int)) (i := ((n - 1 - 1 - i : Nat) : Int)) (j := (i : Int)) (by omega)]
 flfl {a} h := by
  refine h.fl.fl.ext h.2 fun x x0 x1 => ?_
  rw [h.fl.fl_at x0 x1, h.fl_at (by omega) (by omega), show (n : Int) - 1 - (n - 1 - x) = x by omega]
  omega
 fle := by
  have h := idL_VP n
  refine h.fl.ext h.2 fun x x0 x1 => ?_
  rw [h.fl_at x0 x1, idL_at (by omega) (by omega), idL_at x0 x1]
  omega
 flD := by
  have h := rev_VP n
  refine h.fl.ext h.2 fun x x0 x1 => ?_
  rw [h.fl_at x0 x1, rev_at (by omega) (by omega), rev_at x0 x1]
  omega
 coB {a i} h hi := by
  have hi : i + 1 < n := by omega
  unfold edP bgP
  rw [h.co_at (by omega) (by omega), h.co_at (by omega) (by omega)]
  have := h.inv.ne hi
  by_cases k : atD 0 (invL a) ((i : Int) + 1) < atD 0 (invL a) (i : Int)
  ·rw [decide_eq_false (by omega), decide_eq_true k]; rfl
  ·rw [decide_eq_true (by omega), decide_eq_false k]; rfl
 cofr {a i} h hi := by
  have hi : i + 1 < n := by omega
  refine (h.co.fr hi).ext (h.bk hi).co.2 fun x x0 x1 => ?_
  have b := VP.sw_in hi x0 x1
  rw [h.co.fr_at hi x0, h.co_at b.1 b.2, (h.bk hi).co_at x0 x1, h.bk_inv hi, h.inv.fr_at hi x0]
 coD := by
  have h := rev_VP n
  refine h.co.ext (idL_len n) fun x x0 x1 => ?_
  rw [h.co_at x0 x1, rev_inv x0 x1, idL_at x0 x1]
  omega
 coe := by
  have h := idL_VP n
  refine h.co.ext (rev_len n) fun x x0 x1 => ?_
  rw [h.co_at x0 x1, id_inv x0 x1, rev_at x0 x1]
 coco {a} h := by
  refine h.co.co.ext h.fl.2 fun x x0 x1 => ?_
  rw [h.co.co_at x0 x1, h.co_inv x0 x1, h.fl_at x0 x1]
 frD {i} hi := by
  have hi : i + 1 < n := by omega
  have hj : n - 1 - 1 - i + 1 < n := by omega
  have h := rev_VP n
  refine (h.fr hj).ext (h.bk hi).2 fun x x0 x1 => ?_
  have b := VP.sw_in hj x0 x1
  rw [h.fr_at hj x0, rev_at b.1 b.2, h.bk_at hi x0 x1, rev_at x0 x1, sw_rev (i := (i : Int)) (by omega)]
end Go.Proofs.YtglpfpdomnllkaaGreatDoor

namespace Go.Proofs.YtglpfpdomnllkaaGreatDoor
set_option maxRecDepth 100000
theorem swp_swap {r : List Int} {p : Nat} (h : p + 1 < r.length) : swpL r p = swapL r ((p : Int) + 1) :=
 ext_atD (by rw [swp_length, swapL_len]) fun j j0 j1 => by
  rw [swp_atD h j0, swapL_at (by omega) (by omega) j0, show (p : Int) + 1 - 1 = p by omega]
theorem swapL_map {r : List Int} {k : Int} (f : Int → Int) (h1 : 1 ≤ k) (h2 : k < r.length) : (swapL r k).map f = swapL (r.map f) k := by
 have e : ∀ (l : List Int) (j : Int), 0 ≤ j → j < l.length → atD 0 (l.map f) j = f (atD 0 l j) := fun l j j0 j1 => by
  obtain ⟨i, rfl⟩ : ∃ i : Nat, j = i := ⟨j.toNat, by omega⟩
  exact atD_map2 (by omega)
 refine ext_atD (by rw [List.length_map, swapL_len, swapL_len, List.length_map]) fun j j0 j1 => ?_
 rw [List.length_map, swapL_len] at j1
 have hs := sw_rng (f := k - 1) (t := k) (n := r.length) ⟨by omega, by omega⟩ ⟨by omega, h2⟩ ⟨j0, j1⟩
 rw [e _ _ j0 (by rw [swapL_len]; exact j1), swapL_at h1 h2 j0, swapL_at h1 (by rw [List.length_map]; exact h2) j0, e _ _ hs.1 hs.2]
theorem row5_snoc (st w : List Int) (x : Int) : row5 st (w ++ [x]) = swapL (row5 st w) (absI x) := by
 induction w generalizing st with
 | nil => rfl
 | cons y w ih => rw [List.cons_append, row5, row5, ih]
def LetRng (k : Nat) (w : List Int) : Prop := ∀ x ∈ w, 1 ≤ absI x ∧ absI x < (k : Int)
theorem letRng_snoc {k : Nat} {w : List Int} {x : Int} (h : LetRng k w) (h1 : 1 ≤ absI x) (h2 : absI x < k) : LetRng k (w ++ [x]) := fun y hy => by
 rcases List.mem_append.1 hy with hy | hy
 ·exact h y hy
 ·rw [List.mem_singleton.1 hy]; exact ⟨h1, h2⟩
theorem row5_VP {k : Nat} {w : List Int} (h : LetRng k w) : VP k (row5 (idL k) w) :=
 ⟨row5_isP w _ (idL_isP k) (fun x hx => by rw [idL_len]; exact h x hx), by rw [row5_len, idL_len]⟩
theorem map_id_atD (l : List Int) : (idL l.length).map (atD 0 l) = l := by
 refine ext_atD (by rw [List.length_map, idL_len]) fun j j0 j1 => ?_
 rw [List.length_map, idL_len] at j1
 obtain ⟨i, rfl⟩ : ∃ i : Nat, j = i := ⟨j.toNat, by omega⟩
 rw [atD_map2 (by rw [idL_len]; omega), idL_at j0 j1]
section
variable {m : MacV} {l : List Int} {n : Int}
/-- the row is the first order, led by the letters so far; the letters are letters. -/
def RowIs (m : MacV) (l : List Int) (st : List Int × List Int) : Prop := st.1 = (row5 (idL l.length) st.2).map (atD 0 (orderM m l)) ∧ LetRng l.length st.2
theorem rowIs_stC (hr : m.ring = false) (h : LoadOk m l) (hm : meetsM m l n = false) {j : Nat} (hj : (j : Int) ≤ n) (h0 : RowIs m l (wvM m l j)) : ∀ i : Nat, i ≤ (crossM m (atL m l j)).length → RowIs m l (stC m l j i)
 | 0, _ => h0
 | i + 1, hi => by
   obtain ⟨a, b⟩ := rowIs_stC hr h hm hj h0 i (by omega)
   obtain ⟨p, hp, hst, _, hl⟩ := stC_step hr h hm hj (N := j + 1) (by omega) (i := i) (by omega)
   obtain ⟨x, hx⟩ : ∃ x, x = atD 0 (wvM m l (j + 1)).2 (stC m l j i).2.length := ⟨_, rfl⟩
   rw [← hx] at hst hl
   have hlen : (stC m l j i).1.length = l.length := by rw [a, List.length_map, row5_len, idL_len]
   have hax : absI x = (p : Int) + 1 := by
     unfold absI
     rcases hl with ⟨e, _⟩ | ⟨e, _⟩ <;> rw [e] <;> split <;> omega
   refine ⟨?_, ?_⟩
   · rw [hst]
     dsimp only
     rw [row5_snoc, hax, swapL_map _ (by omega) (by rw [row5_len, idL_len]; omega), ← a]
     exact swp_swap hp
   · rw [hst]
     exact letRng_snoc b (by omega) (by omega)
theorem rowIs_wv (hr : m.ring = false) (h : LoadOk m l) (hm : meetsM m l n = false) : ∀ j : Nat, (j : Int) ≤ n + 1 → RowIs m l (wvM m l j)
 | 0, _ => by
   have hlo := h.ok.lo
   have e : (orderM m l).length = l.length := orderM_length (by omega) h.rng h.nodup
   refine ⟨?_, fun x hx => by simp [wvM] at hx⟩
   show orderM m l = (idL l.length).map (atD 0 (orderM m l))
   rw [← e, map_id_atD]
 | j + 1, hj => by
   rw [← stC_last]
   exact rowIs_stC hr h hm (by omega) (rowIs_wv hr h hm j (by omega)) _ (Nat.le_refl _)
end
end Go.Proofs.YtglpfpdomnllkaaGreatDoor

namespace Go.Proofs.YtglpfpdomnllkaaGreatDoor
set_option maxRecDepth 100000
/-- the strand that is above in a letter. -/
def overO (st : List Int) (x : Int) : Int := if x < 0 then atD 0 st (absI x) else atD 0 st (absI x - 1)
def seenGo : List Int → List Int → List Int
 | _, [] => []
 | st, x :: r => overO st x :: seenGo (swapL st (absI x)) r
def seenL (k : Nat) (w : List Int) : List Int := seenGo (idL k) w
theorem seenGo_snoc : ∀ (w st : List Int) (x : Int), seenGo st (w ++ [x]) = seenGo st w ++ [overO (row5 st w) x]
 | [], _, _ => rfl
 | y :: w, st, x => by rw [List.cons_append, seenGo, seenGo, row5, seenGo_snoc w]; rfl
theorem seenGo_len : ∀ (w st : List Int), (seenGo st w).length = w.length
 | [], _ => rfl
 | x :: w, st => by rw [seenGo, List.length_cons, List.length_cons, seenGo_len w]
/-- carriers in the same slots: c of the first ones stands where τ c of the other ones does. -/
structure Ren (l l' : List Int) (τ : Int → Int) : Prop where
 len : l'.length = l.length
 at_ : ∀ c : Int, 0 ≤ c → c < l.length → (0 ≤ τ c ∧ τ c < l.length) ∧ atD 0 l' (τ c) = atD 0 l c
 mem : ∀ s, s ∈ l' → s ∈ l
theorem atD_getE {l : List Int} {c s : Int} (h0 : 0 ≤ c) (h1 : c < l.length) : l[c.toNat]? = some s ↔ atD 0 l c = s := by
 unfold atD
 rw [List.getD_eq_getElem?_getD, List.getElem?_eq_getElem (by omega)]
 simp
theorem Ren.inj {l l' : List Int} {τ : Int → Int} (h : Ren l l' τ) (hn : l.Nodup) {a b : Int} (a0 : 0 ≤ a) (a1 : a < l.length) (b0 : 0 ≤ b) (b1 : b < l.length) (e : τ a = τ b) : a = b := by
 have h1 := (h.at_ a a0 a1).2
 have h2 := (h.at_ b b0 b1).2
 rw [e, h2] at h1
 obtain ⟨i, rfl⟩ : ∃ i : Nat, a = i := ⟨a.toNat, by omega⟩
 obtain ⟨j, rfl⟩ : ∃ j : Nat, b = j := ⟨b.toNat, by omega⟩
 rcases Nat.lt_trichotomy i j with hij | hij | hij
 ·exact absurd h1 (by first | exact nodup_ne hn hij (by omega) | exact (nodup_ne hn hij (by omega)).symm)
 ·rw [hij]
 ·exact absurd h1 (by first | exact nodup_ne hn hij (by omega) | exact (nodup_ne hn hij (by omega)).symm)
theorem Ren.idx {l l' : List Int} {τ : Int → Int} (h : Ren l l' τ) (hn : l'.Nodup) (s : Int) : idxO l' s = (idxO l s).map τ := by
 cases hi : idxO l s with
 | none =>
  rw [idxO_none] at hi
  rw [Option.map_none, idxO_none]
  exact fun k => hi (h.mem s k)
 | some i =>
  obtain ⟨i0, i1, i2⟩ := idxO_some hi
  obtain ⟨⟨t0, t1⟩, t2⟩ := h.at_ i i0 i1
  rw [(atD_getE i0 i1).1 i2] at t2
  have hl := h.len
  obtain ⟨k, hk⟩ : ∃ k : Nat, τ i = k := ⟨(τ i).toNat, by omega⟩
  rw [Option.map_some, hk]
  rw [hk] at t1 t2
  refine idxO_eq (by omega) ?_ fun j hj e => ?_
  ·have := (atD_getE (l := l') (c := (k : Int)) (s := s) (by omega) (by omega)).2 t2
   simpa using this
  ·have e2 : atD 0 l' (j : Int) = s := (atD_getE (by omega) (by omega)).1 (by simpa using e)
   exact nodup_ne hn hj (by omega) (e2.trans t2.symm)
theorem Ren.later {m : MacV} {l l' : List Int} {τ : Int → Int} (h : Ren l l' τ) (j : Nat) : Ren (atL m l j) (atL m l' j) τ := by
 have e : ∀ L : List Int, (atL m L j).length = L.length := fun L => by unfold atL; rw [List.length_map]
 refine ⟨by rw [e, e, h.len], fun c c0 c1 => ?_, fun s hs => ?_⟩
 ·rw [e] at c1 ⊢
  obtain ⟨⟨a, b⟩, d⟩ := h.at_ c c0 c1
  refine ⟨⟨a, b⟩, ?_⟩
  have hl := h.len
  obtain ⟨i, hi⟩ : ∃ i : Nat, c = i := ⟨c.toNat, by omega⟩
  obtain ⟨k, hk⟩ : ∃ k : Nat, τ c = k := ⟨(τ c).toNat, by omega⟩
  rw [hk] at d b ⊢
  subst hi
  unfold atL
  rw [atD_map2 (by omega), atD_map2 (by omega), d]
 ·unfold atL at hs ⊢
  obtain ⟨y, hy, rfl⟩ := List.mem_map.1 hs
  exact List.mem_map.2 ⟨y, h.mem y hy, rfl⟩
theorem Ren.order {m : MacV} {l l' : List Int} {τ : Int → Int} (h : Ren l l' τ) (hn : l'.Nodup) : orderM m l' = (orderM m l).map τ := by
 unfold orderM
 rw [List.map_flatMap]
 congr 1
 funext g
 unfold orderG
 rw [List.map_filterMap]
 congr 1
 funext s
 exact h.idx hn s
def renC (τ : Int → Int) (c : CrM) : CrM := ⟨c.gear, τ c.over, τ c.under, τ c.going⟩
theorem Ren.cross {m : MacV} {l l' : List Int} {τ : Int → Int} (h : Ren l l' τ) (hn : l'.Nodup) : crossM m l' = (crossM m l).map (renC τ) := by
 unfold crossM
 rw [List.map_flatMap]
 congr 1
 funext g
 unfold crossG
 rw [List.map_filterMap]
 congr 1
 funext p
 unfold crossA
 rw [h.idx hn, h.idx hn]
 cases idxO l (slotG m g p.1) <;> cases idxO l (slotG m g p.2) <;> simp only [Option.map_none, Option.map_some]
 cases fwdM m g <;> rfl
theorem atD_mapC {cs : List CrM} {f : CrM → CrM} {i : Nat} (h : i < cs.length) : atD (⟨0, 0, 0, 0⟩ : CrM) (cs.map f) i = f (atD ⟨0, 0, 0, 0⟩ cs i) := by simp [atD, h]
section
variable {m : MacV} {l l' : List Int} {τ : Int → Int} {n : Int}
/-- a letter, with the strands by their first positions. -/
theorem letter_at (hr : m.ring = false) (h : LoadOk m l) (hm : meetsM m l n = false) {j i : Nat} (hj : (j : Int) ≤ n) (hi : i < (crossM m (atL m l j)).length) :
  ∃ (x : Int) (p : Nat), (stC m l j (i + 1)).2 = (stC m l j i).2 ++ [x] ∧ p + 1 < l.length ∧ LetRng l.length (stC m l j i).2 ∧ absI x = (p : Int) + 1 ∧ x ≠ 0 ∧
   ((x = (p : Int) + 1 ∧ (atD ⟨0, 0, 0, 0⟩ (crossM m (atL m l j)) i).over = atD 0 (orderM m l) (atD 0 (row5 (idL l.length) (stC m l j i).2) p) ∧ (atD ⟨0, 0, 0, 0⟩ (crossM m (atL m l j)) i).under = atD 0 (orderM m l) (atD 0 (row5 (idL l.length) (stC m l j i).2) ((p : Int) + 1))) ∨
    (x = -(p : Int) - 1 ∧ (atD ⟨0, 0, 0, 0⟩ (crossM m (atL m l j)) i).over = atD 0 (orderM m l) (atD 0 (row5 (idL l.length) (stC m l j i).2) ((p : Int) + 1)) ∧ (atD ⟨0, 0, 0, 0⟩ (crossM m (atL m l j)) i).under = atD 0 (orderM m l) (atD 0 (row5 (idL l.length) (stC m l j i).2) p))) := by
 obtain ⟨a, b⟩ := rowIs_stC hr h hm hj (rowIs_wv hr h hm j (by omega)) i (by omega)
 obtain ⟨p, hp, hst, hz, hl⟩ := stC_step hr h hm hj (N := j + 1) (by omega) hi
 have hlen : (stC m l j i).1.length = l.length := by rw [a, List.length_map, row5_len, idL_len]
 have rp : atD 0 (stC m l j i).1 (p : Int) = atD 0 (orderM m l) (atD 0 (row5 (idL l.length) (stC m l j i).2) p) := by
  rw [a]; exact atD_map2 (by rw [row5_len, idL_len]; omega)
 have rp1 : atD 0 (stC m l j i).1 ((p : Int) + 1) = atD 0 (orderM m l) (atD 0 (row5 (idL l.length) (stC m l j i).2) ((p : Int) + 1)) := by
  rw [a]
  have := atD_map2 (l := row5 (idL l.length) (stC m l j i).2) (f := atD 0 (orderM m l)) (i := p + 1) (by rw [row5_len, idL_len]; omega)
  rwa [show ((p + 1 : Nat) : Int) = (p : Int) + 1 by omega] at this
 rw [rp, rp1] at hl
 have hs2 := congrArg Prod.snd hst
 dsimp only at hs2
 refine ⟨_, p, hs2, by omega, b, ?_, ?_, hl⟩
 ·unfold absI
  rcases hl with ⟨e, _⟩ | ⟨e, _⟩ <;> rw [e] <;> split <;> omega
 ·rcases hl with ⟨e, _⟩ | ⟨e, _⟩ <;> rw [e] <;> omega
/-- the same letters. -/
theorem Ren.letters (hR : Ren l l' τ) (hr : m.ring = false) (h : LoadOk m l) (h' : LoadOk m l') (hm : meetsM m l n = false) (hm' : meetsM m l' n = false) {j : Nat} (hj : (j : Int) ≤ n) (h0 : (wvM m l' j).2 = (wvM m l j).2) :
  ∀ i : Nat, i ≤ (crossM m (atL m l j)).length → (stC m l' j i).2 = (stC m l j i).2
 | 0, _ => h0
 | i + 1, hi => by
   have ih := hR.letters hr h h' hm hm' hj h0 i (by omega)
   have hlo := h.ok.lo
   have eo : (orderM m l).length = l.length := orderM_length (by omega) h.rng h.nodup
   have hV : VP l.length (orderM m l) := ⟨orderM_isP h, eo⟩
   have hcr := (hR.later (m := m) j).cross (m := m) (atL_nodup h'.rng h'.nodup j)
   obtain ⟨x, p, a1, a2, a3, a4, a5, a6⟩ := letter_at hr h hm hj (i := i) (by omega)
   obtain ⟨x', p', b1, b2, b3, b4, b5, b6⟩ := letter_at hr h' hm' hj (i := i) (by rw [hcr, List.length_map]; omega)
   rw [hcr, atD_mapC (by omega), hR.order h'.nodup, ih, hR.len] at b6
   have hX := row5_VP a3
   have hlen := hR.len
   have el : ∀ q : Int, 0 ≤ q → q < l.length → atD 0 ((orderM m l).map τ) (atD 0 (row5 (idL l.length) (stC m l j i).2) q) = τ (atD 0 (orderM m l) (atD 0 (row5 (idL l.length) (stC m l j i).2) q)) := by
     intro q q0 q1
     have := hX.rg q0 q1
     obtain ⟨k, hk⟩ : ∃ k : Nat, atD 0 (row5 (idL l.length) (stC m l j i).2) q = k := ⟨(atD 0 (row5 (idL l.length) (stC m l j i).2) q).toNat, by omega⟩
     rw [hk]
     exact atD_map2 (by omega)
   have un : ∀ q r : Int, 0 ≤ q → q < l.length → 0 ≤ r → r < l.length → τ (atD 0 (orderM m l) (atD 0 (row5 (idL l.length) (stC m l j i).2) q)) = τ (atD 0 (orderM m l) (atD 0 (row5 (idL l.length) (stC m l j i).2) r)) → q = r := by
     intro q r q0 q1 r0 r1 e
     have hq := hX.rg q0 q1
     have hr' := hX.rg r0 r1
     have oq := hV.rg hq.1 hq.2
     have or' := hV.rg hr'.1 hr'.2
     exact hX.pi q0 q1 r0 r1 (hV.pi hq.1 hq.2 hr'.1 hr'.2 (hR.inj h.nodup oq.1 oq.2 or'.1 or'.2 e))
   rw [el _ (by omega) (by omega), el _ (by omega) (by omega)] at b6
   have exx : x' = x := by
     rcases a6 with ⟨e, o, u⟩ | ⟨e, o, u⟩ <;> rcases b6 with ⟨e', o', u'⟩ | ⟨e', o', u'⟩ <;> simp only [renC] at o' u' <;> rw [o] at o' <;> rw [u] at u'
     · have := un _ _ (by omega) (by omega) (by omega) (by omega) o'; omega
     · have := un _ _ (by omega) (by omega) (by omega) (by omega) o'
       have := un _ _ (by omega) (by omega) (by omega) (by omega) u'
       omega
     · have := un _ _ (by omega) (by omega) (by omega) (by omega) o'
       have := un _ _ (by omega) (by omega) (by omega) (by omega) u'
       omega
     · have := un _ _ (by omega) (by omega) (by omega) (by omega) o'; omega
   rw [a1, b1, ih, exx]
theorem Ren.word (hR : Ren l l' τ) (hr : m.ring = false) (h : LoadOk m l) (h' : LoadOk m l') (hm : meetsM m l n = false) (hm' : meetsM m l' n = false) : ∀ j : Nat, (j : Int) ≤ n + 1 → (wvM m l' j).2 = (wvM m l j).2
 | 0, _ => rfl
 | j + 1, hj => by
   have hcr := (hR.later (m := m) j).cross (m := m) (atL_nodup h'.rng h'.nodup j)
   have := hR.letters hr h h' hm hm' (j := j) (by omega) (hR.word hr h h' hm hm' j (by omega)) _ (Nat.le_refl _)
   rw [← stC_last m l j, ← stC_last m l' j, hcr, List.length_map]
   exact this
end
end Go.Proofs.YtglpfpdomnllkaaGreatDoor

namespace Go.Proofs.YtglpfpdomnllkaaGreatDoor
set_option maxRecDepth 100000
theorem atD_mapF {l : List Int} {f : Int → Int} {j : Int} (h0 : 0 ≤ j) (h1 : j < l.length) : atD 0 (l.map f) j = f (atD 0 l j) := by
 obtain ⟨i, rfl⟩ : ∃ i : Nat, j = i := ⟨j.toNat, by omega⟩
 exact atD_map2 (by omega)
theorem row5_map {k : Nat} (f : Int → Int) : ∀ (w : List Int) (st : List Int), st.length = k → LetRng k w → row5 (st.map f) w = (row5 st w).map f
 | [], _, _, _ => rfl
 | x :: w, st, hl, h => by
   obtain ⟨a, b⟩ := h x (by simp)
   rw [row5, row5, ← swapL_map f a (by omega)]
   exact row5_map f w _ (by rw [swapL_len, hl]) fun y hy => h y (by simp [hy])
theorem overO_map {k : Nat} (f : Int → Int) {st : List Int} {x : Int} (hl : st.length = k) (a : 1 ≤ absI x) (b : absI x < k) : overO (st.map f) x = f (overO st x) := by
 unfold overO
 split
 ·exact atD_mapF (by omega) (by omega)
 ·exact atD_mapF (by omega) (by omega)
theorem seenGo_map {k : Nat} (f : Int → Int) : ∀ (w : List Int) (st : List Int), st.length = k → LetRng k w → seenGo (st.map f) w = (seenGo st w).map f
 | [], _, _, _ => rfl
 | x :: w, st, hl, h => by
   obtain ⟨a, b⟩ := h x (by simp)
   rw [seenGo, seenGo, List.map_cons, overO_map f hl a b, ← swapL_map f a (by omega)]
   rw [seenGo_map f w _ (by rw [swapL_len, hl]) fun y hy => h y (by simp [hy])]
theorem seenGo_app : ∀ (w v st : List Int), seenGo st (w ++ v) = seenGo st w ++ seenGo (row5 st w) v
 | [], _, _ => rfl
 | x :: w, v, st => by rw [List.cons_append, seenGo, seenGo, row5, seenGo_app w v]; rfl
theorem row5_two : ∀ (a b st : List Int), row5 st (a ++ b) = row5 (row5 st a) b
 | [], _, _ => rfl
 | x :: r, b, st => by rw [List.cons_append, row5, row5]; exact row5_two r b _
/-- a word some times. -/
def wTimes (w : List Int) : Nat → List Int
 | 0 => []
 | r + 1 => wTimes w r ++ w
theorem wTimes_rng {k : Nat} {w : List Int} (h : LetRng k w) : ∀ r, LetRng k (wTimes w r)
 | 0 => fun x hx => absurd hx (by simp [wTimes])
 | r + 1 => fun x hx => by
   rcases List.mem_append.1 hx with hx | hx
   · exact wTimes_rng h r x hx
   · exact h x hx
theorem wTimes_len (w : List Int) : ∀ r, (wTimes w r).length = r * w.length
 | 0 => by simp [wTimes]
 | r + 1 => by rw [wTimes, List.length_append, wTimes_len w r, Nat.succ_mul]
section
variable {k : Nat} {w : List Int}
theorem powP_zero (k : Nat) (X : List Int) (h : X.length = k) : powP X 0 = idL k := by
 refine ext_atD (by rw [powP_len, idL_len, h]) fun j j0 j1 => ?_
 rw [powP_len] at j1
 rw [powP_at j0 j1, idL_at j0 (by rw [← h]; exact j1)]
 rfl
theorem powP_succ' {X : List Int} (h : IsP X) (r : Nat) : powP X (r + 1) = X.map (atD 0 (powP X r)) := by
 refine ext_atD (by rw [powP_len, List.length_map]) fun j j0 j1 => ?_
 rw [powP_len] at j1
 have := h.rng j j0 j1
 rw [powP_at j0 j1, atD_mapF j0 j1, powP_at this.1 this.2, itP_succ']
theorem row5_times (h : LetRng k w) : ∀ r, row5 (idL k) (wTimes w r) = powP (row5 (idL k) w) r
 | 0 => by
   have hv := row5_VP h
   rw [powP_zero k _ hv.2]; rfl
 | r + 1 => by
   have hv := row5_VP h
   have hp := powP_len (row5 (idL k) w) r
   rw [wTimes, row5_two, row5_times h r, powP_succ' hv.1]
   have e : powP (row5 (idL k) w) r = (idL k).map (atD 0 (powP (row5 (idL k) w) r)) := by
     have := map_id_atD (powP (row5 (idL k) w) r)
     rw [hp, hv.2] at this
     exact this.symm
   conv => lhs; rw [e]
   exact row5_map _ w _ (idL_len k) h
/-- the strands that are seen in a row. -/
def rowSeen (k : Nat) (w : List Int) (r : Nat) : List Int := (seenL k w).map (atD 0 (powP (row5 (idL k) w) r))
theorem seen_times (h : LetRng k w) (r : Nat) : seenGo (idL k) (wTimes w (r + 1)) = seenGo (idL k) (wTimes w r) ++ rowSeen k w r := by
 have hv := row5_VP h
 have hp := powP_len (row5 (idL k) w) r
 rw [wTimes, seenGo_app, row5_times h r]
 congr 1
 have e : powP (row5 (idL k) w) r = (idL k).map (atD 0 (powP (row5 (idL k) w) r)) := by
  have := map_id_atD (powP (row5 (idL k) w) r)
  rw [hp, hv.2] at this
  exact this.symm
 unfold rowSeen seenL
 conv => lhs; rw [e]
 exact seenGo_map _ w _ (idL_len k) h
theorem rowSeen_len (r : Nat) : (rowSeen k w r).length = w.length := by unfold rowSeen seenL; rw [List.length_map, seenGo_len]
theorem seen_at (h : LetRng k w) : ∀ (R r j : Nat), r < R → j < w.length → atD 0 (seenGo (idL k) (wTimes w R)) ((r * w.length + j : Nat) : Int) = atD 0 (rowSeen k w r) j
 | 0, r, j, h1, _ => by omega
 | R + 1, r, j, h1, h2 => by
   rw [seen_times h R]
   have hl : (seenGo (idL k) (wTimes w R)).length = R * w.length := by rw [seenGo_len, wTimes_len]
   by_cases e : r = R
   · subst e
     unfold atD
     rw [List.getD_eq_getElem?_getD, Int.toNat_natCast, List.getElem?_append_right (by omega), hl, Nat.add_sub_cancel_left, List.getD_eq_getElem?_getD, Int.toNat_natCast]
   · have hlt : r * w.length + j < R * w.length := by
       have : (r + 1) * w.length ≤ R * w.length := Nat.mul_le_mul_right _ (by omega)
       rw [Nat.succ_mul] at this
       omega
     rw [← seen_at h R r j (by omega) h2]
     unfold atD
     rw [List.getD_eq_getElem?_getD, List.getD_eq_getElem?_getD, Int.toNat_natCast, List.getElem?_append_left (by omega)]
end
/-- the strands above in the crossings are the ones that are seen, told from 1 on. -/
theorem cross_fst : ∀ (ws st : List Int), ((rowGo st [] ws).2).map Prod.fst = seenGo st ws
 | [], _ => rfl
 | x :: r, st => by
   rw [rowGo, rowGo_cr, List.map_append, cross_fst r, seenGo]
   show [(crossOf st x).1] ++ _ = _
   have : (crossOf st x).1 = overO st x := by unfold crossOf overO; split <;> rfl
   rw [this]; rfl
theorem startL_map (k : Nat) : startL k = (idL k).map (· + 1) := by
 refine ext_atD (by rw [startL_len, List.length_map, idL_len]) fun j j0 j1 => ?_
 rw [startL_len] at j1
 rw [start_at j0 j1, atD_mapF j0 (by rw [idL_len]; exact j1)]
theorem cross_seen {k : Nat} {v : List Int} (h : LetRng k v) : ((rowL k v).2).map Prod.fst = (seenGo (idL k) v).map (· + 1) := by
 unfold rowL
 rw [cross_fst, startL_map]
 exact seenGo_map _ v _ (idL_len k) h
theorem shift_dvd {α : Type} (f : Nat → α) (all h : Nat) (hall : 0 < all) (hp : ∀ i, f (i + all) = f i) (h0 : 0 < h) (hs : ∀ i, i < all → f i = f (i + h)) (hmin : ∀ r, 0 < r → r < h → ∃ i, i < all ∧ f i ≠ f (i + r)) : h ∣ all := by
 have hq : ∀ q i, f (i + q * all) = f i := by
  intro q
  induction q with
  | zero => intro i; simp
  | succ q ih => intro i; rw [Nat.succ_mul, ← Nat.add_assoc, hp, ih]
 have hm : ∀ i, f i = f (i % all) := fun i => by
  have := hq (i / all) (i % all)
  rw [Nat.mul_comm, Nat.mod_add_div] at this
  exact this
 have hs2 : ∀ i, f i = f (i + h) := fun i => by
  have a := hs (i % all) (Nat.mod_lt _ hall)
  rw [hm i, a, hm (i % all + h), hm (i + h)]
  congr 1
  rw [Nat.mod_add_mod]
 have hs3 : ∀ q i, f i = f (i + q * h) := by
  intro q
  induction q with
  | zero => intro i; simp
  | succ q ih => intro i; rw [Nat.succ_mul, ← Nat.add_assoc, ← hs2, ← ih]
 by_cases hr : all % h = 0
 ·exact Nat.dvd_of_mod_eq_zero hr
 ·obtain ⟨i, hi, hne⟩ := hmin (all % h) (by omega) (Nat.mod_lt _ h0)
  refine absurd ?_ hne
  have e : i + all % h + all / h * h = i + all := by have := Nat.mod_add_div all h; rw [Nat.mul_comm] at this; omega
  rw [hs3 (all / h) (i + all % h), e, hp]
end Go.Proofs.YtglpfpdomnllkaaGreatDoor

namespace Go.Proofs.YtglpfpdomnllkaaGreatDoor
open Go.RowKit
set_option maxHeartbeats 2000000
set_option maxRecDepth 100000

def cB (b : UInt8) : Value := .int .u8 b.toNat
attribute [go_sem] cB
section
variable {P : Program} {ops : Array Oper} {rest : List Oper} {a : Act} {Q : Exit → Act → World → Prop} {d : Option Tmp} {src dst e ty : TypeId} {p : String} {x : Operand} {af : Array Edge} {w : World}
end
end Go.Proofs.YtglpfpdomnllkaaGreatDoor

namespace Go.Proofs.YtglpfpdomnllkaaGreatDoor
open Go.RowKit
set_option maxHeartbeats 2000000
set_option maxRecDepth 100000

end Go.Proofs.YtglpfpdomnllkaaGreatDoor

namespace Go.Proofs.YtglpfpdomnllkaaGreatDoor
open Go.RowKit
set_option maxHeartbeats 2000000
set_option maxRecDepth 100000

end Go.Proofs.YtglpfpdomnllkaaGreatDoor

namespace Go.Proofs.YtglpfpdomnllkaaGreatDoor
open Go.RowKit
section
variable {P : Program} {ops : Array Oper} {w : World} {a : Act} {ty : TypeId} {p : String} {af : Array Edge} {g : Option (Nat × Bool)} {d : Tmp}
end

end Go.Proofs.YtglpfpdomnllkaaGreatDoor

namespace Go.Proofs.YtglpfpdomnllkaaGreatDoor

theorem runGo_spec (l : List Int) (b : Int) : ∀ (f k : Nat), (∀ j : Nat, j < k → absI (atD 0 l j) = absI (atD 0 l 0) + b * j) → ∀ j : Nat, j < runGo l b k f → absI (atD 0 l j) = absI (atD 0 l 0) + b * j
 | 0, k, h, j, hj => h j hj
 | f + 1, k, h, j, hj => by
   rw [runGo] at hj
   split at hj
   · next hc =>
     refine runGo_spec l b f (k + 1) (fun i hi => ?_) j hj
     rcases Nat.lt_succ_iff_lt_or_eq.1 hi with h1 | h1
     · exact h i h1
     · rw [h1]; exact hc.2
   · exact h j hj
theorem runN_spec (l : List Int) (b : Int) {j : Nat} (hj : j < runN l b) : absI (atD 0 l j) = absI (atD 0 l 0) + b * j := by
 refine runGo_spec l b l.length 1 (fun i hi => ?_) j hj
 have : i = 0 := by omega
 subst this
 simp
theorem byteAt_way (F T : Int) (ls : List Int) {k : Nat} (h : k < ls.length) : byteAt (wayL F T ls) k = if sideB F T (atD 0 ls k) then 111 else 117 := by
 have h2 : k < (wayL F T ls).size := by rw [wayL_size]; exact h
 have e : atD 0 ls k = ls[k] := by simp [atD, h]
 rw [byteAt_in h2, e]
 have : (wayL F T ls)[k]'h2 = if sideB F T ls[k] then (111 : UInt8) else 117 := by
  rw [ByteArray.getElem_eq_getElem_data]
  simp [wayL]
 rw [this]
 split <;> rfl
theorem passOf_letters {r : List Int} (h0 : 0 < r.length) (hnz : ∀ x ∈ r, x ≠ 0) : lettersL (passOf r) = r.take (passCount r) := by
 have hc1 := passCount_pos (r := r)
 have hcl := passCount_le h0
 have hsz : (passOf r).way.size = passCount r := by
  show (wayL _ _ (r.take (passCount r))).size = _
  rw [wayL_size]; simp; omega
 refine List.ext_getElem (by rw [lettersL_len, hsz]; simp; omega) fun k hk1 hk2 => ?_
 have hk : k < passCount r := by rw [lettersL_len, hsz] at hk1; exact hk1
 have hkr : k < r.length := by omega
 have e1 : (lettersL (passOf r))[k] = letterAt (passOf r) k := by simp [lettersL, lettersK]
 have e2 : (r.take (passCount r))[k] = r[k] := by simp
 have e3 : atD 0 r k = r[k] := by simp [atD, hkr]
 rw [e1, e2]
 have hnk := hnz r[k] (List.getElem_mem hkr)
 have hb : byteAt (passOf r).way k = if sideB (passF r) (passT r) r[k] then 111 else 117 := by
  have := byteAt_way (passF r) (passT r) (r.take (passCount r)) (k := k) (by simp; omega)
  rw [atD_take hk, e3] at this
  exact this
 unfold letterAt
 rw [hb]
 show (if (if sideB (passF r) (passT r) r[k] = true then (111 : Int) else 117) == 117 then -(if passT r < passF r then (k : Int) + 1 - passF r else passF r + k) else (if passT r < passF r then (k : Int) + 1 - passF r else passF r + k)) = r[k]
 by_cases hud : runN r 1 < runN r (-1)
 ·have hcd : passCount r = runN r (-1) := by unfold passCount; omega
  have hF : passF r = absI (atD 0 r 0) + 1 := by unfold passF; rw [if_pos hud]
  have hT : passT r = absI (atD 0 r 0) + 1 - passCount r := by unfold passT; rw [if_pos hud]
  have hr := runN_spec r (-1) (j := k) (by omega)
  rw [e3] at hr
  have hbase : (if passT r < passF r then (k : Int) + 1 - passF r else passF r + k) = (k : Int) + 1 - passF r := if_pos (by omega)
  rw [hbase]
  have hs : sideB (passF r) (passT r) r[k] = decide (r[k] < 0) := by
   unfold sideB
   rw [show decide (passF r < passT r) = false by simp; omega]
   by_cases hp : 0 < r[k]
   ·have : ¬ r[k] < 0 := by omega
    simp [hp, this]
   ·have : r[k] < 0 := by omega
    simp [hp, this]
  rw [hs]
  unfold absI at hr
  by_cases hp : r[k] < 0
  ·simp only [hp, decide_true, if_true]
   rw [if_neg (by decide)]
   rw [if_neg (by omega)] at hr
   unfold absI at hF
   omega
  ·simp only [hp, decide_false, Bool.false_eq_true, if_false]
   rw [if_pos (by decide)]
   rw [if_pos (by omega)] at hr
   unfold absI at hF
   omega
 ·have hcd : passCount r = runN r 1 := by unfold passCount; omega
  have hF : passF r = absI (atD 0 r 0) := by unfold passF; rw [if_neg hud]
  have hT : passT r = absI (atD 0 r 0) + passCount r := by unfold passT; rw [if_neg hud]
  have hr := runN_spec r 1 (j := k) (by omega)
  rw [e3] at hr
  have hbase : (if passT r < passF r then (k : Int) + 1 - passF r else passF r + k) = passF r + k := if_neg (by omega)
  rw [hbase]
  have hs : sideB (passF r) (passT r) r[k] = decide (0 < r[k]) := by
   unfold sideB
   rw [show decide (passF r < passT r) = true by simp; omega]
   by_cases hp : 0 < r[k] <;> simp [hp]
  rw [hs]
  unfold absI at hr
  by_cases hp : 0 < r[k]
  ·simp only [hp, decide_true, if_true]
   rw [if_neg (by decide)]
   rw [if_pos (by omega)] at hr
   unfold absI at hF
   omega
  ·simp only [hp, decide_false, Bool.false_eq_true, if_false]
   rw [if_pos (by decide)]
   rw [if_neg (by omega)] at hr
   unfold absI at hF
   omega
theorem passesOf_word : ∀ (f : Nat) (r : List Int), r.length ≤ f → (∀ x ∈ r, x ≠ 0) → lettersAll (passesOf f r) = r
 | 0, r, h, _ => by
   have : r = [] := List.eq_nil_of_length_eq_zero (by omega)
   subst this; simp [passesOf, lettersAll]
 | f + 1, r, h, hnz => by
   rcases Nat.eq_zero_or_pos r.length with h0 | h0
   · have : r = [] := List.eq_nil_of_length_eq_zero h0
     subst this; simp [passesOf, lettersAll]
   · have hc1 := passCount_pos (r := r)
     rw [passesOf_step h0]
     have ih := passesOf_word f (r.drop (passCount r)) (by simp; omega) (fun x hx => hnz x (List.mem_of_mem_drop hx))
     unfold lettersAll at ih ⊢
     rw [List.flatMap_cons, ih, passOf_letters h0 hnz, List.take_append_drop]
theorem passOf_ends {r : List Int} (h0 : 0 < r.length) : (runN r 1 < runN r (-1) ∧ passCount r = runN r (-1) ∧ passF r = absI (atD 0 r 0) + 1 ∧ passT r = absI (atD 0 r 0) + 1 - passCount r ∧ absI (atD 0 r (passCount r - 1 : Nat)) = absI (atD 0 r 0) - (passCount r - 1)) ∨
  (¬ runN r 1 < runN r (-1) ∧ passCount r = runN r 1 ∧ passF r = absI (atD 0 r 0) ∧ passT r = absI (atD 0 r 0) + passCount r ∧ absI (atD 0 r (passCount r - 1 : Nat)) = absI (atD 0 r 0) + (passCount r - 1)) := by
 have hc1 := passCount_pos (r := r)
 by_cases hud : runN r 1 < runN r (-1)
 ·left
  have hcd : passCount r = runN r (-1) := by unfold passCount; omega
  refine ⟨hud, hcd, by unfold passF; rw [if_pos hud], by unfold passT; rw [if_pos hud], ?_⟩
  have := runN_spec r (-1) (j := passCount r - 1) (by omega)
  rw [this]; omega
 ·right
  have hcd : passCount r = runN r 1 := by unfold passCount; omega
  refine ⟨hud, hcd, by unfold passF; rw [if_neg hud], by unfold passT; rw [if_neg hud], ?_⟩
  have := runN_spec r 1 (j := passCount r - 1) (by omega)
  rw [this]; omega
theorem passOf_ok {n : Int} {r : List Int} (h0 : 0 < r.length) (hf : ∀ x ∈ r, 1 ≤ absI x ∧ absI x < n) : passE n (passOf r) = 0 := by
 have hc1 := passCount_pos (r := r)
 have hcl := passCount_le h0
 have f0 := hf (atD 0 r 0) (by simp [atD, h0])
 have f1 := hf (atD 0 r (passCount r - 1 : Nat)) (by
  have : passCount r - 1 < r.length := by omega
  simp [atD, this])
 have hsz : (passOf r).way.size = passCount r := by
  show (wayL _ _ (r.take (passCount r))).size = _
  rw [wayL_size]; simp; omega
 have hF : (passOf r).f = passF r := rfl
 have hT : (passOf r).t = passT r := rfl
 have htr : trimOU (passOf r).way = ⟨#[]⟩ := trimOU_all fun k hk => by
  have hk2 : k < (r.take (passCount r)).length := by rw [hsz] at hk; simp; omega
  have := byteAt_way (passF r) (passT r) (r.take (passCount r)) hk2
  show byteAt (wayL (passF r) (passT r) (r.take (passCount r))) k = 111 ∨ byteAt (wayL (passF r) (passT r) (r.take (passCount r))) k = 117
  rw [this]
  split
  ·exact .inl rfl
  ·exact .inr rfl
 unfold passE
 rw [hF, hT, htr, hsz]
 unfold distP
 rw [hF, hT]
 rcases passOf_ends h0 with ⟨_, _, e1, e2, e3⟩ | ⟨_, _, e1, e2, e3⟩
 ·rw [if_neg (by omega), if_neg (by omega), if_neg (by rw [if_neg (by omega)]; omega), if_neg (fun h => h rfl)]
 ·rw [if_neg (by omega), if_neg (by omega), if_neg (by rw [if_pos (by omega)]; omega), if_neg (fun h => h rfl)]
theorem passesOf_ok {n : Int} : ∀ (f : Nat) (r : List Int), (∀ x ∈ r, 1 ≤ absI x ∧ absI x < n) → ∀ p ∈ passesOf f r, passE n p = 0
 | 0, r, _, p, hp => by simp [passesOf] at hp
 | f + 1, r, hf, p, hp => by
   rcases Nat.eq_zero_or_pos r.length with h0 | h0
   · have : r = [] := List.eq_nil_of_length_eq_zero h0
     subst this; simp [passesOf] at hp
   · rw [passesOf_step h0] at hp
     rcases List.mem_cons.1 hp with h | h
     · rw [h]; exact passOf_ok h0 hf
     · exact passesOf_ok f _ (fun x hx => hf x (List.mem_of_mem_drop hx)) p h
end Go.Proofs.YtglpfpdomnllkaaGreatDoor

namespace Go.Proofs.YtglpfpdomnllkaaGreatDoor

theorem passesGo_ok {n : Int} : ∀ {l : List PassV}, (∀ p ∈ l, passE n p = 0) → passesGo n l = 0
 | [], _ => rfl
 | p :: r, h => by
   rw [passesGo, if_neg (fun hh => hh (h p (by simp)))]
   exact passesGo_ok fun q hq => h q (by simp [hq])
theorem passesE_ok {n : Int} {l : List PassV} (h2 : 2 ≤ n) (h12 : n ≤ 12) (hl : l.length ≤ 1000) (h : ∀ p ∈ l, passE n p = 0) : passesE n l = 0 := by
 unfold passesE
 rw [if_neg (by omega), if_neg (by omega)]
 exact passesGo_ok h
theorem passesOf_size : ∀ (f : Nat) (r : List Int), (passesOf f r).length ≤ f
 | 0, r => by simp [passesOf]
 | f + 1, r => by
   rcases Nat.eq_zero_or_pos r.length with h | h
   · have : r = [] := List.eq_nil_of_length_eq_zero h
     subst this; simp [passesOf]
   · rw [passesOf_step h]
     have := passesOf_size f (r.drop (passCount r))
     simp only [List.length_cons]; omega
end Go.Proofs.YtglpfpdomnllkaaGreatDoor

namespace Go.Proofs.YtglpfpdomnllkaaGreatDoor
set_option maxRecDepth 100000
def isD (n : Nat) (p : List Int) : Bool := decide (p = revP n)
def isE (n : Nat) (p : List Int) : Bool := decide (p = idL n)
section
variable {S : Type} {T : GarT S}
end
end Go.Proofs.YtglpfpdomnllkaaGreatDoor

namespace Go.Proofs.YtglpfpdomnllkaaGreatDoor
set_option maxRecDepth 100000
section
variable {S : Type} {G : Gar S}
/-- nothing can be moved between two neighbours. -/
def PairOk (G : Gar S) (a b : S) : Prop := ∀ i, i < G.N → G.B b i = true → G.E a i = true
theorem noPull_of : ∀ {X : List S}, (∀ j a b, X[j]? = some a → X[j + 1]? = some b → PairOk G a b) → NoPull G X
 | [], _, Y, p => by cases p
 | x :: X, h, Y, p => by
   cases p with
   | here _ b R i h1 h2 h3 =>
     have := h 0 x b rfl rfl i h1 h2
     rw [h3] at this; cases this
   | there _ p => exact noPull_of (X := X) (fun j a b e1 e2 => h (j + 1) a b (by simpa using e1) (by simpa using e2)) _ p
end
/-- the first place at which two simple braids have a letter to move, or none. -/
def folP (n : Nat) (a b : List Int) : Option Nat := (List.range (n - 1)).find? fun i => bgP b i && !(edP a i)
theorem fol_none {n : Nat} {a b : List Int} (h : folP n a b = none) : PairOk (garN n).toGar a b := by
 intro i hi hb
 unfold folP at h
 rw [List.find?_eq_none] at h
 have hi2 : i < n - 1 := hi
 have := h i (List.mem_range.2 hi2)
 have hb2 : bgP b i = true := hb
 rw [hb2] at this
 simp at this
 exact this
end Go.Proofs.YtglpfpdomnllkaaGreatDoor

namespace Go.Proofs.YtglpfpdomnllkaaGreatDoor
set_option maxRecDepth 100000
section
variable {m : MacV} {l : List Int}
end
noncomputable def ordN (p : List Int) (i : Int) : Nat := Classical.epsilon (Ord p i)
theorem ordN_ok {p : List Int} (hp : IsP p) {i : Int} (h0 : 0 ≤ i) (h1 : i < p.length) : Ord p i (ordN p i) := Classical.epsilon_spec (ord_ex hp h0 h1)
theorem ord_uniq {p : List Int} {i : Int} {d e : Nat} (h : Ord p i d) (k : Ord p i e) : d = e := by
 rcases Nat.lt_trichotomy d e with hl | hl | hl
 ·exact absurd h.back (k.min d h.pos hl)
 ·exact hl
 ·exact absurd k.back (h.min e k.pos hl)
/-- the period of a scheme: the strands that are seen are at their first positions again. -/
noncomputable def perG (p seen : List Int) : Nat := (seen.map (ordN p)).foldl lcmF 1
theorem perG_snoc (p seen : List Int) (x : Int) : perG p (seen ++ [x]) = lcmF (perG p seen) (ordN p x) := by unfold perG; rw [List.map_append, List.foldl_append]; rfl
section
variable {p seen : List Int}
theorem perG_dvd (hp : IsP p) (hs : ∀ x ∈ seen, 0 ≤ x ∧ x < p.length) : perG p seen ∣ periodN p := by
 unfold perG
 rw [perF_dvd]
 refine ⟨Nat.one_dvd _, fun d hd => ?_⟩
 obtain ⟨x, hx, rfl⟩ := List.mem_map.1 hd
 obtain ⟨h0, h1⟩ := hs x hx
 exact (ord_dvd (ordN_ok hp h0 h1) _).1 ((period_iff hp _).2 (Nat.dvd_refl _) x h0 h1)
theorem perG_pos (hp : IsP p) (hs : ∀ x ∈ seen, 0 ≤ x ∧ x < p.length) : 0 < perG p seen := by
 have h := perG_dvd hp hs
 have h2 := period_pos hp
 exact Nat.pos_of_dvd_of_pos h h2
theorem perG_back (hp : IsP p) (hs : ∀ x ∈ seen, 0 ≤ x ∧ x < p.length) {x : Int} (hx : x ∈ seen) (i : Nat) : itP p x (i + perG p seen) = itP p x i := by
 obtain ⟨h0, h1⟩ := hs x hx
 have h := ordN_ok hp h0 h1
 have hd : ordN p x ∣ perG p seen := ((perF_dvd (perG p seen) (seen.map (ordN p)) 1).1 (Nat.dvd_refl _)).2 _ (List.mem_map.2 ⟨x, hx, rfl⟩)
 have hb := (ord_dvd h (perG p seen)).2 hd
 rw [itP_add, hb]
end
theorem seen_rng {k : Nat} : ∀ (w st : List Int), VP k st → LetRng k w → ∀ x ∈ seenGo st w, 0 ≤ x ∧ x < k
 | [], _, _, _, x, hx => by simp [seenGo] at hx
 | y :: w, st, hv, h, x, hx => by
   obtain ⟨a, b⟩ := h y (by simp)
   rw [seenGo] at hx
   rcases List.mem_cons.1 hx with rfl | hx
   · unfold overO
     split
     · exact hv.rg (by omega) b
     · exact hv.rg (by omega) (by omega)
   · refine seen_rng w (swapL st (absI y)) ⟨swapL_isP a (by rw [hv.2]; exact b) hv.1, by rw [swapL_len, hv.2]⟩ (fun z hz => h z (by simp [hz])) x hx
/-- rows come round after the period. -/
theorem rows_round {k : Nat} {w : List Int} (h : LetRng k w) (r : Nat) : rowSeen k w (r + perG (row5 (idL k) w) (seenL k w)) = rowSeen k w r := by
 have hv := row5_VP h
 have hs : ∀ x ∈ seenL k w, 0 ≤ x ∧ x < (row5 (idL k) w).length := fun x hx => by rw [hv.2]; exact seen_rng w (idL k) (idL_VP k) h x hx
 unfold rowSeen
 refine List.map_congr_left fun x hx => ?_
 obtain ⟨h0, h1⟩ := hs x hx
 rw [powP_at h0 h1, powP_at h0 h1, perG_back hv.1 hs hx]
end Go.Proofs.YtglpfpdomnllkaaGreatDoor

namespace Go.Proofs.YtglpfpdomnllkaaGreatDoor
open Go.RowKit
set_option maxHeartbeats 1000000
set_option maxRecDepth 100000

theorem wordE_fit {n : Int} {l : List Int} (h1 : 1 ≤ n) (h2 : n ≤ 12) (hl : l.length ≤ 200) (hf : ∀ x ∈ l, 1 ≤ absI x ∧ absI x < n) : wordE n l = 0 := by
 rw [wordE_any (by unfold strandsE; rw [if_neg (by omega)]) hl]
 rw [if_neg]
 intro h
 obtain ⟨x, hx, hb⟩ := List.any_eq_true.1 h
 obtain ⟨a, b⟩ := hf x hx
 unfold outB at hb
 unfold absI at a b
 simp at hb
 split at a <;> split at b <;> omega
end Go.Proofs.YtglpfpdomnllkaaGreatDoor

namespace Go.Proofs.YtglpfpdomnllkaaGreatDoor
set_option maxRecDepth 100000
def schemeE (n : Int) (w : List Int) : Int := if n < 2 ∨ 12 < n then 3 else if w.length = 0 then 12 else if 24 < w.length then 5 else if w.any (outB n) then 3 else 0
def colB (c : Int) : Bool := decide (c < 0) || decide (7 < c)
def placeE (n : Int) (l : List Int) : Int := if n < 2 ∨ 12 < n then 3 else if (l.length : Int) ≠ n then 2 else if l.any colB then 3 else 0
structure SchOk (n : Int) (w : List Int) : Prop where
 lo : 2 ≤ n
 hi : n ≤ 12
 pos : 0 < w.length
 le : w.length ≤ 24
 out : w.any (outB n) = false
 rng : LetRng n.toNat w
theorem scheme_zero {n : Int} {w : List Int} (h : schemeE n w = 0) : SchOk n w := by
 unfold schemeE at h
 split at h
 ·omega
 ·rename_i h1
  split at h
  ·omega
  ·rename_i h2
   split at h
   ·omega
   ·rename_i h3
    split at h
    ·omega
    ·rename_i h4
     have h4 : w.any (outB n) = false := by simpa using h4
     refine ⟨by omega, by omega, by omega, by omega, h4, fun x hx => ?_⟩
     have := (List.any_eq_false.1 h4) x hx
     simp [outB] at this
     obtain ⟨⟨a, b⟩, c⟩ := this
     unfold absI
     split <;> omega
theorem SchOk.word {n : Int} {w : List Int} (h : SchOk n w) : wordE n w = 0 := by
 refine wordE_fit (by have := h.lo; omega) h.hi (by have := h.le; omega) fun x hx => ?_
 have := h.rng x hx
 have := h.lo
 omega
structure PlcOk (n : Int) (l : List Int) : Prop where
 lo : 2 ≤ n
 hi : n ≤ 12
 len : (l.length : Int) = n
 out : l.any colB = false
 rng : ∀ x ∈ l, 0 ≤ x ∧ x ≤ 7
theorem place_zero {n : Int} {l : List Int} (h : placeE n l = 0) : PlcOk n l := by
 unfold placeE at h
 split at h
 ·omega
 ·split at h
  ·omega
  ·rename_i h2
   split at h
   ·omega
   ·rename_i h4
    have h4 : l.any colB = false := by simpa using h4
    refine ⟨by omega, by omega, by simpa using h2, h4, fun x hx => ?_⟩
    have := (List.any_eq_false.1 h4) x hx
    simp [colB] at this
    omega
end Go.Proofs.YtglpfpdomnllkaaGreatDoor

namespace Go.Proofs.YtglpfpdomnllkaaGreatDoor
open Go.RowKit
set_option maxHeartbeats 4000000
set_option maxRecDepth 100000
theorem rOut_any (n a b : Int) (w : World) :
  Calls Tryz.prog 19 #[.int .i64 n, .int .i64 a, .int .i64 b] w fun r w' => r = .returned (.bool (decide (n < a) || decide (b < n))) ∧ w = w' := by
 by_cases h : n < a
 ·have e : (decide (n < a) || decide (b < n)) = true := by simp [h]
  rw [e]
  go_enter Tryz.func19, Tryz.ntmps19
  go_wp2
  go_ret
  exact ⟨rfl, rfl⟩
 ·have e : (decide (n < a) || decide (b < n)) = decide (b < n) := by simp [h]
  rw [e]
  clear e
  go_enter Tryz.func19, Tryz.ntmps19
  go_wp2
  go_ret
  exact ⟨rfl, rfl⟩
theorem out_outB {n x : Int} (h0 : ¬ x = 0) : (decide (x < 1 - n) || decide (n - 1 < x)) = outB n x := by
 have h : (x == 0) = false := by simpa using h0
 unfold outB
 rw [h, Bool.false_or]
 congr 1
 ·by_cases c : x < 1 - n
  ·rw [decide_eq_true c, decide_eq_true (by omega)]
  ·rw [decide_eq_false c, decide_eq_false (by omega)]
 ·by_cases c : n - 1 < x
  ·rw [decide_eq_true c, decide_eq_true (by omega)]
  ·rw [decide_eq_false c, decide_eq_false (by omega)]
theorem rCheckScheme_any (n : Int) (a : Option Addr) (cap : Nat) (l : List Int) (w : World) (hS : Ints w a cap l) :
  Calls Tryz.prog 4 #[.int .i64 n, .slice a l.length cap] w fun r w' => r = .returned (.int .i64 (schemeE n l)) ∧ Below w.heap.size w w' := by
 have hcap := hS.le
 have hm := hS.max
 have HO := hid rOut_any
 by_cases h1 : n < 2 ∨ 12 < n
 ·have e : schemeE n l = 3 := by unfold schemeE; rw [if_pos h1]
  have d : (decide (n < 2) || decide (12 < n)) = true := by simpa using h1
  rw [e]
  clear e h1
  go_enter Tryz.func4, Tryz.ntmps4
  go_wp2_with fail
  refine (HO.out _ _ _ _).mono ?_
  rw [d]
  rintro e w' ⟨rfl, rfl⟩
  go_wp2_with fail
  go_ret
  exact ⟨rfl, Below.refl _ _⟩
 have d : (decide (n < 2) || decide (12 < n)) = false := by simp; omega
 have hn2 : 2 ≤ n := by omega
 have hn12 : n ≤ 12 := by omega
 by_cases h2 : l.length = 0
 ·have e : schemeE n l = 12 := by unfold schemeE; rw [if_neg h1, if_pos h2]
  rw [e]
  clear e h1
  have h2 : (l.length : Int) = 0 := by omega
  go_enter Tryz.func4, Tryz.ntmps4
  go_wp2_with fail
  refine (HO.out _ _ _ _).mono ?_
  rw [d]
  rintro e w' ⟨rfl, rfl⟩
  go_wp2_with fail
  go_ret
  exact ⟨rfl, Below.refl _ _⟩
 have d2 : ((l.length : Int) == 0) = false := beq_eq_false_iff_ne.2 (by omega)
 by_cases h3 : 24 < l.length
 ·have e : schemeE n l = 5 := by unfold schemeE; rw [if_neg h1, if_neg h2, if_pos h3]
  have d3 : decide (24 < (l.length : Int)) = true := decide_eq_true (by omega)
  rw [e]
  clear e h1
  go_enter Tryz.func4, Tryz.ntmps4
  go_wp2_with fail
  refine (HO.out _ _ _ _).mono ?_
  rw [d]
  rintro e w' ⟨rfl, rfl⟩
  go_wp2_with fail
  go_ret
  exact ⟨rfl, Below.refl _ _⟩
 have d3 : decide (24 < (l.length : Int)) = false := decide_eq_false (by omega)
 have hE : schemeE n l = if l.any (outB n) then 3 else 0 := by unfold schemeE; rw [if_neg h1, if_neg h2, if_neg h3]
 obtain ⟨m, hm2⟩ : ∃ m, m = schemeE n l := ⟨_, rfl⟩
 rw [← hm2] at hE ⊢
 have HE := hid hE; clear hE hm2 h1 h2
 have hw1 : IntKind.i64.wrap (1 - n) = 1 - n := IntWalk.i64_in _ (by omega)
 have hw2 : IntKind.i64.wrap (n - 1) = n - 1 := IntWalk.i64_in _ (by omega)
 have hl24 : l.length ≤ 24 := by omega
 go_enter Tryz.func4, Tryz.ntmps4
 go_wp2_with fail
 refine (HO.out _ _ _ _).mono ?_
 rw [d]
 rintro e w' ⟨rfl, rfl⟩
 go_wp2_with fail
 go_loopw [5] (fun i wr => ∃ k : Nat, k ≤ l.length ∧ i = .int .i64 k ∧ (l.take k).any (outB n) = false ∧ Below w.heap.size w wr) (fun i _ => l.length - (intOf i).toNat)
 case atStart => exact ⟨0, by omega, rfl, rfl, Below.refl _ _⟩
 case round =>
  obtain ⟨k, hk, rfl, hno, hbr⟩ := hrel
  have hR := hS.below hbr
  by_cases hlt : k < l.length
  ·have ht : l.take (k + 1) = l.take k ++ [atD 0 l k] := by rw [List.take_succ_eq_append_getElem hlt]; simp [atD, hlt]
   have HT := hid ht; clear ht
   have HNO := hid hno; clear hno
   have hx3 : atD 0 l k ∈ l := atD_mem hlt
   obtain ⟨x, hx⟩ : ∃ x, x = atD 0 l k := ⟨_, rfl⟩
   have HX := hid hx
   have ho0 : outB n x = outB n (atD 0 l k) := by rw [← hx]
   clear hx
   by_cases hx0 : x = 0
   ·have b0 : (x == 0) = true := by simpa using hx0
    have hm3 : m = 3 := by
     rw [HE.out, if_pos]
     rw [List.any_eq_true]
     exact ⟨_, hx3, by rw [← ho0, hx0]; simp [outB]⟩
    have HM := hid hm3; clear hm3 ho0 hx0 hx3
    go_wp2_with ((with_reducible refine wpList_idx _ 0 E_ints F_int cInt1 wU wU (hR) oD oD (fun _ => wU) (fun _ => ?_)); rw [← HX.out])
    go_ret
    exact ⟨by rw [HM.out]; rfl, hbr⟩
   ·have b0 : (x == 0) = false := by simpa using hx0
    have e1 := out_outB (n := n) hx0
    cases ho : outB n x with
    | true =>
     rw [ho] at e1 ho0
     have hm3 : m = 3 := by
      rw [HE.out, if_pos]
      rw [List.any_eq_true]
      exact ⟨_, hx3, ho0.symm⟩
     have HM := hid hm3; have E1 := hid e1; clear hm3 ho0 hx0 hx3 e1 ho
     go_wp2_with ((first | (with_reducible refine wpList_idx _ 0 E_ints F_int cInt1 wU wU (hR) oD oD (fun _ => wU) (fun _ => ?_)) | (with_reducible refine wpList_idxG 0 E_ints F_int cInt1 wU wU (hR) (rfl) oD oD (fun _ => wU) wU (fun _ => wU) (fun _ => ?_))); rw [← HX.out])
     refine (HO.out _ _ _ _).mono ?_
     rw [E1.out]
     rintro e w' ⟨rfl, rfl⟩
     go_wp2_with fail
     go_ret
     exact ⟨by rw [HM.out]; rfl, hbr⟩
    | false =>
     rw [ho] at e1 ho0
     have hno2 : (l.take (k + 1)).any (outB n) = false := by rw [HT.out, List.any_append, HNO.out]; simp [← ho0]
     have HN2 := hid hno2; have E1 := hid e1; clear hno2 ho0 hx0 hx3 e1 ho
     go_wp2_with ((first | (with_reducible refine wpList_idx _ 0 E_ints F_int cInt1 wU wU (hR) oD oD (fun _ => wU) (fun _ => ?_)) | (with_reducible refine wpList_idxG 0 E_ints F_int cInt1 wU wU (hR) (rfl) oD oD (fun _ => wU) wU (fun _ => wU) (fun _ => ?_))); rw [← HX.out])
     refine (HO.out _ _ _ _).mono ?_
     rw [E1.out]
     rintro e w' ⟨rfl, rfl⟩
     go_wp2_with fail
     go_roundw
     case rel => exact ⟨k + 1, by omega, by go_num, HN2.out, hbr⟩
     case measure => simp [intOf]; omega
  ·have : k = l.length := by omega
   subst this
   rw [List.take_length] at hno
   have hm3 : m = 0 := by rw [HE.out, hno]; rfl
   have HM := hid hm3; clear hm3 hno
   go_wp2_with fail
   go_ret
   exact ⟨by rw [HM.out]; rfl, hbr⟩
theorem rCheckPlacing_any (n : Int) (a : Option Addr) (cap : Nat) (l : List Int) (w : World) (hS : Ints w a cap l) :
  Calls Tryz.prog 5 #[.int .i64 n, .slice a l.length cap] w fun r w' => r = .returned (.int .i64 (placeE n l)) ∧ Below w.heap.size w w' := by
 have hcap := hS.le
 have hm := hS.max
 have HO := hid rOut_any
 by_cases h1 : n < 2 ∨ 12 < n
 ·have e : placeE n l = 3 := by unfold placeE; rw [if_pos h1]
  have d : (decide (n < 2) || decide (12 < n)) = true := by simpa using h1
  rw [e]
  clear e h1
  go_enter Tryz.func5, Tryz.ntmps5
  go_wp2_with fail
  refine (HO.out _ _ _ _).mono ?_
  rw [d]
  rintro e w' ⟨rfl, rfl⟩
  go_wp2_with fail
  go_ret
  exact ⟨rfl, Below.refl _ _⟩
 have d : (decide (n < 2) || decide (12 < n)) = false := by simp; omega
 have hn2 : 2 ≤ n := by omega
 have hn12 : n ≤ 12 := by omega
 by_cases h2 : (l.length : Int) = n
 ·have hE : placeE n l = if l.any colB then 3 else 0 := by unfold placeE; rw [if_neg h1, if_neg (fun h => h h2)]
  have d2 : ((l.length : Int) != n) = false := by simp [h2]
  obtain ⟨m, hm2⟩ : ∃ m, m = placeE n l := ⟨_, rfl⟩
  rw [← hm2] at hE ⊢
  subst h2
  have HE := hid hE; clear hE hm2 h1
  go_enter Tryz.func5, Tryz.ntmps5
  go_wp2_with fail
  refine (HO.out _ _ _ _).mono ?_
  rw [d]
  rintro e w' ⟨rfl, rfl⟩
  go_wp2_with fail
  go_loopw [5] (fun i wr => ∃ k : Nat, k ≤ l.length ∧ i = .int .i64 k ∧ (l.take k).any colB = false ∧ Below w.heap.size w wr) (fun i _ => l.length - (intOf i).toNat)
  case atStart => exact ⟨0, by omega, rfl, rfl, Below.refl _ _⟩
  case round =>
   obtain ⟨k, hk, rfl, hno, hbr⟩ := hrel
   have hR := hS.below hbr
   by_cases hlt : k < l.length
   ·have ht : l.take (k + 1) = l.take k ++ [atD 0 l k] := by rw [List.take_succ_eq_append_getElem hlt]; simp [atD, hlt]
    have HT := hid ht; clear ht
    have HNO := hid hno; clear hno
    have hx3 : atD 0 l k ∈ l := atD_mem hlt
    obtain ⟨x, hx⟩ : ∃ x, x = atD 0 l k := ⟨_, rfl⟩
    have HX := hid hx
    have e1 : (decide (x < 0) || decide (7 < x)) = colB x := rfl
    have ho0 : colB x = colB (atD 0 l k) := by rw [← hx]
    clear hx
    cases ho : colB x with
    | true =>
     rw [ho] at e1 ho0
     have hm3 : m = 3 := by
      rw [HE.out, if_pos]
      rw [List.any_eq_true]
      exact ⟨_, hx3, ho0.symm⟩
     have HM := hid hm3; have E1 := hid e1; clear hm3 ho0 hx3 e1 ho
     go_wp2_with ((with_reducible refine wpList_idx _ 0 E_ints F_int cInt1 wU wU (hR) oD oD (fun _ => wU) (fun _ => ?_)); rw [← HX.out])
     refine (HO.out _ _ _ _).mono ?_
     rw [E1.out]
     rintro e w' ⟨rfl, rfl⟩
     go_wp2_with fail
     go_ret
     exact ⟨by rw [HM.out]; rfl, hbr⟩
    | false =>
     rw [ho] at e1 ho0
     have hno2 : (l.take (k + 1)).any colB = false := by rw [HT.out, List.any_append, HNO.out]; simp [← ho0]
     have HN2 := hid hno2; have E1 := hid e1; clear hno2 ho0 hx3 e1 ho
     go_wp2_with ((with_reducible refine wpList_idx _ 0 E_ints F_int cInt1 wU wU (hR) oD oD (fun _ => wU) (fun _ => ?_)); rw [← HX.out])
     refine (HO.out _ _ _ _).mono ?_
     rw [E1.out]
     rintro e w' ⟨rfl, rfl⟩
     go_wp2_with fail
     go_roundw
     case rel => exact ⟨k + 1, by omega, by go_num, HN2.out, hbr⟩
     case measure => simp [intOf]; omega
   ·have : k = l.length := by omega
    subst this
    rw [List.take_length] at hno
    have hm3 : m = 0 := by rw [HE.out, hno]; rfl
    have HM := hid hm3; clear hm3 hno
    go_wp2_with fail
    go_ret
    exact ⟨by rw [HM.out]; rfl, hbr⟩
 ·have e : placeE n l = 2 := by unfold placeE; rw [if_neg h1, if_pos h2]
  have d2 : ((l.length : Int) != n) = true := by simp [h2]
  rw [e]
  clear e h1 h2
  go_enter Tryz.func5, Tryz.ntmps5
  go_wp2_with fail
  refine (HO.out _ _ _ _).mono ?_
  rw [d]
  rintro e w' ⟨rfl, rfl⟩
  go_wp2_with fail
  go_ret
  exact ⟨rfl, Below.refl _ _⟩
end Go.Proofs.YtglpfpdomnllkaaGreatDoor

namespace Go.Proofs.YtglpfpdomnllkaaGreatDoor
open Go.RowKit
set_option maxHeartbeats 4000000
set_option maxRecDepth 100000
theorem pwhen_any (b : Bool) (e : Int) (w : World) :
  Calls Tryz.prog 53 #[.bool b, .int .i64 e] w fun r w' => r = .returned (.int .i64 (if b then e else 0)) ∧ w = w' := by
 cases b
 ·go_enter Tryz.func53, Tryz.ntmps53
  go_wp2
  go_ret
  exact ⟨rfl, rfl⟩
 ·go_enter Tryz.func53, Tryz.ntmps53
  go_wp2
  go_ret
  exact ⟨rfl, rfl⟩

theorem pfirst_any (a : Option Addr) (cap : Nat) (l : List Int) (w : World) (h : Ints w a cap l) :
  Calls Tryz.prog 23 #[.slice a l.length cap] w fun r w' => r = .returned (.int .i64 (firstE l)) ∧ w = w' := by
 have hcap := h.le
 have hm := h.max
 go_enter Tryz.func23, Tryz.ntmps23
 go_wp2
 go_loop [7] (fun i => ∃ k : Nat, k ≤ l.length ∧ i = .int .i64 k ∧ firstE (l.drop k) = firstE l) (fun i => l.length - (intOf i).toNat)
 case atStart => exact ⟨0, by omega, rfl, by simp⟩
 case round =>
  obtain ⟨k, hk, rfl, hf⟩ := hrel
  by_cases hlt : k < l.length
  ·have hs := firstE_drop l k hlt
   have HF := hid hf; clear hf
   have HS := hid hs; clear hs
   go_wp2_with (with_reducible refine wpList_idx _ 0 E_errs F_err cInt1 wU wU (h) oD oD (fun _ => wU) (fun _ => ?_))
   ·go_ret
    have h1 : (atD 0 l k != 0) = true := by assumption
    refine ⟨?_, rfl⟩
    have := HS.out; rw [HF.out, h1, if_pos rfl] at this; rw [this]; rfl
   ·go_round
    case rel =>
     have h1 : (atD 0 l k != 0) = false := by assumption
     refine ⟨k + 1, by omega, by go_num, ?_⟩
     have := HS.out; rw [HF.out, h1] at this; exact this.symm
    case measure => simp [intOf]; omega
  ·have : k = l.length := by omega
   subst this
   rw [firstE_end] at hf
   have HF := hid hf; clear hf
   go_wp2
   go_ret
   exact ⟨by rw [← HF.out]; rfl, rfl⟩


theorem pwithin_ok (n a b : Int) (w : World) (h1 : a ≤ n) (h2 : n ≤ b) : Calls Tryz.prog 54 #[.int .i64 n, .int .i64 a, .int .i64 b] w fun r w' => r = .returned (.int .i64 0) ∧ w = w' := by
 have d1 : decide (n < a) = false := decide_eq_false (by omega)
 have d2 : decide (b < n) = false := decide_eq_false (by omega)
 clear h1 h2
 go_enter Tryz.func54, Tryz.ntmps54
 go_wp2_with (go_at_call 53; refine (pwhen_any _ _ _).mono ?_; rintro e w' ⟨rfl, rfl⟩)
 go_ret
 exact ⟨rfl, rfl⟩
theorem pstrands_ok (n : Int) (w : World) (h1 : 2 ≤ n) (h2 : n ≤ 12) : Calls Tryz.prog 52 #[.int .i64 n] w fun r w' => r = .returned (.int .i64 0) ∧ w = w' := by
 go_enter Tryz.func52, Tryz.ntmps52
 go_wp2_with (go_at_call 54; refine (pwithin_ok _ _ _ _ (by omega) (by omega)).mono ?_; rintro e w' ⟨rfl, rfl⟩)
 go_ret
 exact ⟨rfl, rfl⟩
theorem prows_ok (n : Int) (w : World) (h1 : 1 ≤ n) (h2 : n ≤ 24) : Calls Tryz.prog 25 #[.int .i64 n] w fun r w' => r = .returned (.int .i64 0) ∧ w = w' := by
 go_enter Tryz.func25, Tryz.ntmps25
 go_wp2_with (go_at_call 54; refine (pwithin_ok _ _ _ _ (by omega) (by omega)).mono ?_; rintro e w' ⟨rfl, rfl⟩)
 go_ret
 exact ⟨rfl, rfl⟩
theorem pscheme1 (n x : Int) (b : Nat) (w : World) (hn : 1 ≤ n ∧ n ≤ 12) (h : outB n x = false) (hc : w.cell? ⟨b, 0, none⟩ = some (.int .i64 n)) :
  Calls Tryz.prog 51 #[.int .i64 x, .pointer (some ⟨b, 0, none⟩)] w fun r w' => r = .returned (.bool false) ∧ w = w' := by
 have d0 : (x == 0) = false := by cases e : (x == 0) with | false => rfl | true => unfold outB at h; rw [e] at h; cases h
 have d1 : decide (x ≤ -n) = false := by cases e : decide (x ≤ -n) with | false => rfl | true => unfold outB at h; rw [d0, e] at h; cases h
 have d2 : decide (n ≤ x) = false := by cases e : decide (n ≤ x) with | false => rfl | true => unfold outB at h; rw [d0, d1, e] at h; cases h
 have hw : IntKind.i64.wrap (-n) = -n := IntWalk.i64_in _ (by omega)
 clear h hn
 go_enter Tryz.func51, Tryz.ntmps51
 go_wp2
 go_ret
 exact ⟨rfl, rfl⟩
theorem pcolour_ok (x : Int) (w : World) (h0 : 0 ≤ x) (h1 : x ≤ 7) : Calls Tryz.prog 139 #[.int .i64 x] w fun r w' => r = .returned (.bool true) ∧ w = w' := by
 have d1 : decide (0 ≤ x) = true := decide_eq_true h0
 have d2 : decide (x < 8) = true := decide_eq_true (by omega)
 go_enter Tryz.func139, Tryz.ntmps139
 go_wp2
 go_ret
 exact ⟨rfl, rfl⟩
theorem pno1 (x : Int) (w : World) (h0 : 0 ≤ x) (h1 : x ≤ 7) : Calls Tryz.prog 138 #[.int .i64 x] w fun r w' => r = .returned (.bool false) ∧ w = w' := by
 go_enter Tryz.func138, Tryz.ntmps138
 go_wp2_with (go_at_call 139; refine (pcolour_ok x _ h0 h1).mono ?_; rintro e w' ⟨rfl, rfl⟩)
 go_ret
 exact ⟨rfl, rfl⟩
theorem idxSch (n : Int) (b : Nat) (a : Option Addr) (cap : Nat) (l : List Int) (w : World) (hS : Ints w a cap l) (h1 : (1 ≤ n ∧ n ≤ 12) ∧ ∀ x ∈ l, outB n x = false) (hc : w.cell? ⟨b, 0, none⟩ = some (.int .i64 n)) :
  Calls Tryz.prog 92 #[.slice a l.length cap, .func (.func 51) #[] #[.pointer (some ⟨b, 0, none⟩)]] w fun r w' => r = .returned (.int .i64 (-1)) ∧ w = w' := by
 have hcap := hS.le
 have hm := hS.max
 have HC := hid (fun (k : Nat) (h : k < l.length) => pscheme1 n (atD 0 l k) b w h1.1 (h1.2 _ (atD_mem h)) hc)
 go_enter Tryz.func92, Tryz.ntmps92
 go_wp2_with fail
 go_loop [8, 5] (fun i _ => ∃ k : Nat, k ≤ l.length ∧ i = .int .i64 k) (fun i _ => l.length - (intOf i).toNat)
 case atStart => exact ⟨0, by omega, rfl⟩
 case round =>
  obtain ⟨k, hk, rfl⟩ := hrel
  by_cases hlt : k < l.length
  ·go_wp2_with (first | (with_reducible refine wpList_idx _ 0 E_ints F_int cInt1 wU wU (hS) oD oD (fun _ => wU) (fun _ => ?_)) | (go_at_call 51; refine (HC.out k hlt).mono ?_; rintro e w' ⟨rfl, rfl⟩))
   exact ⟨⟨k + 1, by omega, by go_num⟩, by simp [intOf]; omega⟩
  ·go_wp2_with fail
   go_ret
   exact ⟨rfl, rfl⟩
theorem conSch (n : Int) (b : Nat) (a : Option Addr) (cap : Nat) (l : List Int) (w : World) (hS : Ints w a cap l) (h1 : (1 ≤ n ∧ n ≤ 12) ∧ ∀ x ∈ l, outB n x = false) (hc : w.cell? ⟨b, 0, none⟩ = some (.int .i64 n)) :
  Calls Tryz.prog 50 #[.slice a l.length cap, .func (.func 51) #[] #[.pointer (some ⟨b, 0, none⟩)]] w fun r w' => r = .returned (.bool false) ∧ w = w' := by
 go_enter Tryz.func50, Tryz.ntmps50
 go_wp2_with (go_at_call 92; refine (idxSch n b a cap l _ hS h1 hc).mono ?_; rintro e w' ⟨rfl, rfl⟩)
 go_ret
 exact ⟨rfl, rfl⟩
theorem idxCol (a : Option Addr) (cap : Nat) (l : List Int) (w : World) (hS : Ints w a cap l) (h1 : ∀ x ∈ l, 0 ≤ x ∧ x ≤ 7) :
  Calls Tryz.prog 92 #[.slice a l.length cap, .func (.func 138) #[] #[]] w fun r w' => r = .returned (.int .i64 (-1)) ∧ w = w' := by
 have hcap := hS.le
 have hm := hS.max
 have HC := hid (fun (k : Nat) (h : k < l.length) => pno1 (atD 0 l k) w (h1 _ (atD_mem h)).1 (h1 _ (atD_mem h)).2)
 go_enter Tryz.func92, Tryz.ntmps92
 go_wp2_with fail
 go_loop [8, 5] (fun i _ => ∃ k : Nat, k ≤ l.length ∧ i = .int .i64 k) (fun i _ => l.length - (intOf i).toNat)
 case atStart => exact ⟨0, by omega, rfl⟩
 case round =>
  obtain ⟨k, hk, rfl⟩ := hrel
  by_cases hlt : k < l.length
  ·go_wp2_with (first | (with_reducible refine wpList_idx _ 0 E_ints F_int cInt1 wU wU (hS) oD oD (fun _ => wU) (fun _ => ?_)) | (go_at_call 138; refine (HC.out k hlt).mono ?_; rintro e w' ⟨rfl, rfl⟩))
   exact ⟨⟨k + 1, by omega, by go_num⟩, by simp [intOf]; omega⟩
  ·go_wp2_with fail
   go_ret
   exact ⟨rfl, rfl⟩
theorem conCol (a : Option Addr) (cap : Nat) (l : List Int) (w : World) (hS : Ints w a cap l) (h1 : ∀ x ∈ l, 0 ≤ x ∧ x ≤ 7) :
  Calls Tryz.prog 50 #[.slice a l.length cap, .func (.func 138) #[] #[]] w fun r w' => r = .returned (.bool false) ∧ w = w' := by
 go_enter Tryz.func50, Tryz.ntmps50
 go_wp2_with (go_at_call 92; refine (idxCol a cap l _ hS h1).mono ?_; rintro e w' ⟨rfl, rfl⟩)
 go_ret
 exact ⟨rfl, rfl⟩
theorem pNoColour (a : Option Addr) (cap : Nat) (l : List Int) (w : World) (hS : Ints w a cap l) (h1 : ∀ x ∈ l, 0 ≤ x ∧ x ≤ 7) :
  Calls Tryz.prog 108 #[.slice a l.length cap] w fun r w' => r = .returned (.bool false) ∧ w = w' := by
 go_enter Tryz.func108, Tryz.ntmps108
 go_wp2_with (go_at_call 50; refine (conCol a cap l _ hS h1).mono ?_; rintro e w' ⟨rfl, rfl⟩)
 go_ret
 exact ⟨rfl, rfl⟩
theorem pCheckScheme (n : Int) (a : Option Addr) (cap : Nat) (l : List Int) (w : World) (hS : Ints w a cap l) (h : SchOk n l) :
  Calls Tryz.prog 24 #[.int .i64 n, .slice a l.length cap] w fun r w' => r = .returned (.int .i64 0) ∧ Below w.heap.size w w' := by
 have hlo := h.lo
 have hhi := h.hi
 have hall : ∀ x ∈ l, outB n x = false := fun x hx => by have := (List.any_eq_false.1 h.out) x hx; simpa using this
 have d1 : ((l.length : Int) == 0) = false := beq_eq_false_iff_ne.2 (by have := h.pos; omega)
 have d2 : decide (24 < (l.length : Int)) = false := decide_eq_false (by have := h.le; omega)
 have HC := hid (fun w hS b hc => conSch n b a cap l w hS ⟨⟨by omega, hhi⟩, hall⟩ hc)
 have hz := hS.alloc (.cells #[.int .i64 n] 3)
 clear h hall
 go_enter Tryz.func24, Tryz.ntmps24
 go_wp2_with (first | (go_at_call 50; refine (HC.out _ hz _ (by simp [go_sem])).mono ?_; rintro e w' ⟨rfl, rfl⟩) | (go_at_call 52; refine (pstrands_ok _ _ (by omega) (by omega)).mono ?_; rintro e w' ⟨rfl, rfl⟩) | (go_at_call 53; refine (pwhen_any _ _ _).mono ?_; rintro e w' ⟨rfl, rfl⟩) | (go_at_call 23; refine (pfirst_any _ _ [_, _, _, _] _ (reps_newN cIntS [_, _, _, _] 4 rfl (by decide) _ _ (by simp) rfl)).mono ?_; rintro e w' ⟨rfl, rfl⟩))
 go_ret
 exact ⟨rfl, bal (bal (Below.refl _ _) _) _⟩
theorem pCheckPlacing (n : Int) (a : Option Addr) (cap : Nat) (l : List Int) (w : World) (hS : Ints w a cap l) (h : PlcOk n l) :
  Calls Tryz.prog 75 #[.int .i64 n, .slice a l.length cap] w fun r w' => r = .returned (.int .i64 0) ∧ Below w.heap.size w w' := by
 have hlo := h.lo
 have hhi := h.hi
 have d1 : ((l.length : Int) != n) = false := by rw [h.len]; simp
 have HC := hid (fun w hS => pNoColour a cap l w hS h.rng)
 clear h
 go_enter Tryz.func75, Tryz.ntmps75
 go_wp2_with (first | (go_at_call 108; refine (HC.out _ hS).mono ?_; rintro e w' ⟨rfl, rfl⟩) | (go_at_call 52; refine (pstrands_ok _ _ (by omega) (by omega)).mono ?_; rintro e w' ⟨rfl, rfl⟩) | (go_at_call 53; refine (pwhen_any _ _ _).mono ?_; rintro e w' ⟨rfl, rfl⟩) | (go_at_call 23; refine (pfirst_any _ _ [_, _, _] _ (reps_newN cIntS [_, _, _] 3 rfl (by decide) _ _ (by simp) rfl)).mono ?_; rintro e w' ⟨rfl, rfl⟩))
 go_ret
 exact ⟨rfl, bal (Below.refl _ _) _⟩
theorem pCheckPlaced (n : Int) (a a2 : Option Addr) (cap cap2 : Nat) (l c : List Int) (w : World) (hS : Ints w a cap l) (hC : Ints w a2 cap2 c) (h : SchOk n l) (h2 : PlcOk n c) :
  Calls Tryz.prog 37 #[.int .i64 n, .slice a l.length cap, .slice a2 c.length cap2] w fun r w' => r = .returned (.int .i64 0) ∧ Below w.heap.size w w' := by
 have HS := hid (fun w hS => pCheckScheme n a cap l w hS h)
 have HP := hid (fun w hS => pCheckPlacing n a2 cap2 c w hS h2)
 clear h h2
 go_enter Tryz.func37, Tryz.ntmps37
 go_wp2_with fail
 refine (HS.out _ hS).mono ?_
 rintro e w1 ⟨rfl, b1⟩
 go_wp2_with fail
 refine (HP.out _ (hC.below b1)).mono ?_
 rintro e w2 ⟨rfl, b2⟩
 go_wp2_with (go_at_call 23; refine (pfirst_any _ _ [_, _] _ (reps_newN cIntS [_, _] 2 rfl (by decide) _ _ (by simp) rfl)).mono ?_; rintro e w' ⟨rfl, rfl⟩)
 go_ret
 exact ⟨rfl, bnext b1 (bal b2 _)⟩
end Go.Proofs.YtglpfpdomnllkaaGreatDoor

namespace Go.Proofs.YtglpfpdomnllkaaGreatDoor
open Go.RowKit
set_option maxRecDepth 100000
theorem F_sls : Flat Tryz.prog 25 := ⟨_, Tryz.underlying25, rfl⟩
section
variable {ops : Array Oper} {rest : List Oper} {a : Act} {Q : Exit → Act → World → Prop} {w : World} {ty : TypeId} {p : String} {af : Array Edge}
/-- a store into a cell that is known. -/
theorem wpList_stoAt {e : TypeId} {x y : Operand} {pa : Addr} {u v : Value} (hsto : (w.cell? pa).isSome = true → w.frozen? pa = false → (Instr.storeAt e (.pointer (some pa)) v).run Tryz.prog w = .ok () (w.setCell pa v)) (hx : a.eval x = .pointer (some pa)) (hy : a.eval y = v)
  (hc : w.cell? pa = some u) (hf : w.frozen? pa = false) (h : wpList Tryz.prog ops Q rest (a.put none undef) (w.setCell pa v)) :
  wpList Tryz.prog ops Q (⟨none, .store e x y, ty, p, af, none⟩ :: rest) a w := by
 refine wpList_plain rfl fun K hK' => ?_
 have hs := hsto (by rw [hc]; rfl) hf
 unfold Oper.wp
 simp only [execOp, hx, hy]
 simp [hs, Result.andThen]
 exact hK' _ _ h
end
/-- the handles H lead to the rows of M. -/
def mxQ (H : List SlH) (M : List (List Int)) : List (SlH × List Int) := H.zip M
section
variable {B : Nat} {w0 w : World} {pre : List Pc}
end
end Go.Proofs.YtglpfpdomnllkaaGreatDoor

namespace Go.Proofs.YtglpfpdomnllkaaGreatDoor
set_option maxRecDepth 100000
theorem row5_snoc2 : ∀ (a st : List Int) (x : Int), row5 st (a ++ [x]) = swapL (row5 st a) (absI x)
 | [], st, x => rfl
 | y :: r, st, x => by rw [List.cons_append, row5, row5, row5_snoc2 r]
theorem row5_take (st w : List Int) {j : Nat} (h : j < w.length) : row5 st (w.take (j + 1)) = swapL (row5 st (w.take j)) (absI (atD 0 w j)) := by
 have e : w.take (j + 1) = w.take j ++ [atD 0 w j] := by rw [List.take_succ_eq_append_getElem h]; simp [atD, h]
 rw [e, row5_snoc2]
end Go.Proofs.YtglpfpdomnllkaaGreatDoor
