/- Contracts and plain facts that the claim uses (MaX AwV). Conditions: as each one states. -/
import Derived.Test.YtbchpkmcpplidaaGreatDoorXc09
import Derived.Test.YtbchpkmcpplidaaGreatDoorXc12
import Derived.Test.YtbchpkmcpplidaaGreatDoorXc13
import Derived.Test.YtbchpkmcpplidaaGreatDoorXc14
set_option linter.all false

namespace Go.Proofs.YtbchpkmcpplidaaGreatDoor
open Go.RowKit
set_option maxHeartbeats 8000000
set_option maxRecDepth 100000

theorem CheckMachine_any (m : MacV) (ad : Option Addr) (cap : Nat) (w : World) (hR : Ints w ad cap m.sw) (hI0 : InI m.gears) :
  Calls Tryz.prog 11 #[mV m ad cap] w fun r w' => r = .returned (.int .i64 (macE m)) ∧ Below w.heap.size w w' := by
 obtain ⟨q, hq⟩ : ∃ q, m.gears.tmod 2 = q := ⟨_, rfl⟩
 have hI : -9223372036854775808 ≤ m.gears ∧ m.gears ≤ 9223372036854775807 := by unfold InI at hI0; omega
 by_cases c1 : m.gears < 1
 ·have hv : macE m = 3 := by unfold macE; rw [if_pos (.inl c1)]
  have hd1 : decide (m.gears < 1) = true := decide_eq_true c1
  cases hr : m.ring <;> cases ht : (m.turn != 1)
  ·exact cm_a00 m ad cap w hR hI hr q hq hd1 ht (hid hv)
  ·exact cm_a01 m ad cap w hR hI hr q hq hd1 ht (hid hv)
  ·exact cm_a10 m ad cap w hR hI hr q hq hd1 ht (hid hv)
  ·exact cm_a11 m ad cap w hR hI hr q hq hd1 ht (hid hv)
 have n1 : decide (m.gears < 1) = false := decide_eq_false c1
 by_cases c2 : 16 < m.gears
 ·have hv : macE m = 3 := by unfold macE; rw [if_pos (.inr c2)]
  have hd2 : decide (16 < m.gears) = true := decide_eq_true c2
  cases hr : m.ring <;> cases ht : (m.turn != 1)
  ·exact cm_b00 m ad cap w hR hI hr q hq n1 hd2 ht (hid hv)
  ·exact cm_b01 m ad cap w hR hI hr q hq n1 hd2 ht (hid hv)
  ·exact cm_b10 m ad cap w hR hI hr q hq n1 hd2 ht (hid hv)
  ·exact cm_b11 m ad cap w hR hI hr q hq n1 hd2 ht (hid hv)
 have n2 : decide (16 < m.gears) = false := decide_eq_false c2
 have r1 : 1 ≤ m.gears := by omega
 have r2 : m.gears ≤ 16 := by omega
 have hq2 : q = m.gears % 2 := by rw [← hq, Int.tmod_eq_emod_of_nonneg (by omega)]
 by_cases c3 : m.ring = true ∧ q = 1
 ·have hv : macE m = 17 := by unfold macE; rw [if_neg (by omega), if_pos ⟨c3.1, by rw [← hq2]; exact c3.2⟩]
  have hr := c3.1
  have hq1 : (q == 1) = true := by simpa using c3.2
  cases ht : (m.turn != 1)
  ·exact cm_c0 m ad cap w hR hI hr q hq r1 r2 n1 n2 hq1 ht (hid hv)
  ·exact cm_c1 m ad cap w hR hI hr q hq r1 r2 n1 n2 hq1 ht (hid hv)
 have m3 : ¬ (m.ring = true ∧ m.gears % 2 = 1) := fun h => c3 ⟨h.1, by rw [hq2]; exact h.2⟩
 have hqb : m.ring = true → (q == 1) = false := fun hr => by
  have : ¬ q = 1 := fun e => c3 ⟨hr, e⟩
  simpa using this
 by_cases c4 : m.turn ≠ 1 ∧ m.turn ≠ -1
 ·have hv : macE m = 3 := by unfold macE; rw [if_neg (by omega), if_neg m3, if_pos c4]
  have ht : (m.turn != 1) = true := by simpa using c4.1
  have htn : (m.turn != -1) = true := by simpa using c4.2
  cases hr : m.ring
  ·exact cm_d0 m ad cap w hR hI hr q hq r1 r2 n1 n2 ht htn (hid hv)
  ·exact cm_d1 m ad cap w hR hI hr q hq r1 r2 n1 n2 (hqb hr) ht htn (hid hv)
 have htn : (m.turn != 1) = true → (m.turn != -1) = false := fun h => by
  have t1 : m.turn ≠ 1 := by simpa using h
  have t2 : m.turn = -1 := by
   by_cases t2 : m.turn = -1
   ·exact t2
   ·exact absurd ⟨t1, t2⟩ c4
  simp [t2]
 by_cases c5 : m.gears < m.sw.length
 ·have hv : macE m = 5 := by unfold macE; rw [if_neg (by omega), if_neg m3, if_neg c4, if_pos c5]
  have hd5 : decide (m.gears < m.sw.length) = true := decide_eq_true c5
  cases hr : m.ring <;> cases ht : (m.turn != 1)
  ·exact cm_e00 m ad cap w hR hI hr q hq r1 r2 n1 n2 ht hd5 (hid hv)
  ·exact cm_e01 m ad cap w hR hI hr q hq r1 r2 n1 n2 ht (htn ht) hd5 (hid hv)
  ·exact cm_e10 m ad cap w hR hI hr q hq r1 r2 n1 n2 (hqb hr) ht hd5 (hid hv)
  ·exact cm_e11 m ad cap w hR hI hr q hq r1 r2 n1 n2 (hqb hr) ht (htn ht) hd5 (hid hv)
 have n5 : decide (m.gears < m.sw.length) = false := decide_eq_false c5
 have h5 : m.sw.length ≤ 16 := by omega
 have hv : macE m = swGo m none m.sw := by unfold macE; rw [if_neg (by omega), if_neg m3, if_neg c4, if_neg c5]
 cases hr : m.ring <;> cases ht : (m.turn != 1)
 ·exact cm_f00 m ad cap w hR hI hr q hq r1 r2 n1 n2 ht n5 h5 (hid hv)
 ·exact cm_f01 m ad cap w hR hI hr q hq r1 r2 n1 n2 ht (htn ht) n5 h5 (hid hv)
 ·exact cm_f10 m ad cap w hR hI hr q hq r1 r2 n1 n2 (hqb hr) ht n5 h5 (hid hv)
 ·exact cm_f11 m ad cap w hR hI hr q hq r1 r2 n1 n2 (hqb hr) ht (htn ht) n5 h5 (hid hv)
end Go.Proofs.YtbchpkmcpplidaaGreatDoor

namespace Go.Proofs.YtbchpkmcpplidaaGreatDoor
open Go.RowKit
set_option maxRecDepth 100000
/-- a meeting found by a run of 64 ticks (enough for every machine of at most 16 carriers' slots: allC_of checks it). -/
def meetC (m : MacV) (a b : Int) : Option (Nat × Int) := (meetF m a b 64 0 a b).getD none
def InS (m : MacV) (x : Int) : Prop := 0 ≤ x ∧ x < 4 * m.gears
def AllC (m : MacV) : Prop := ∀ a b, InS m a → InS m b → meetM m a b = meetC m a b
theorem allC_of {m : MacV} {n : Nat} (hn : 4 * m.gears = (n : Int)) (h : (List.range n).all (fun a => (List.range n).all fun b => (meetF m a b 64 0 a b).isSome) = true) : AllC m := by
 intro a b ⟨a0, a1⟩ ⟨b0, b1⟩
 have ha : ((a.toNat : Nat) : Int) = a := Int.toNat_of_nonneg a0
 have hb : ((b.toNat : Nat) : Int) = b := Int.toNat_of_nonneg b0
 have h1 := List.all_eq_true.1 h a.toNat (List.mem_range.2 (by omega))
 have h2 := List.all_eq_true.1 h1 b.toNat (List.mem_range.2 (by omega))
 rw [ha, hb] at h2
 cases hf : meetF m a b 64 0 a b with
 | none => rw [hf] at h2; cases h2
 | some r => rw [meetF_ok a0 a1 b0 b1 hf]; unfold meetC; rw [hf]; rfl
def firstC (m : MacV) (l : List Int) : Option (Nat × Int) := (pairsTo l l.length).foldl (fun b p => bestS b (meetC m p.1 p.2)) none
theorem foldl_same {α β : Type} {f g : β → α → β} : ∀ {l : List α} (_ : ∀ b, ∀ a ∈ l, f b a = g b a) (b : β), l.foldl f b = l.foldl g b
 | [], _, _ => rfl
 | a :: r, h, b => by
   rw [List.foldl_cons, List.foldl_cons, h b a (by simp)]
   exact foldl_same (fun b x hx => h b x (List.mem_cons_of_mem _ hx)) _
theorem firstC_ok {m : MacV} (hC : AllC m) {l : List Int} (hl : ∀ x ∈ l, InS m x) : firstM m l = firstC m l := by
 refine foldl_same (fun b p hp => ?_) none
 obtain ⟨i, j, hji, hi, rfl⟩ := (pairsTo_mem (l := l) (Nat.le_refl _)).1 hp
 have e : ∀ k, k < l.length → InS m (atD 0 l k) := fun k hk => hl _ (by simp [atD, hk])
 show bestS b (meetM m (atD 0 l i) (atD 0 l j)) = bestS b (meetC m (atD 0 l i) (atD 0 l j))
 rw [hC _ _ (e i hi) (e j (by omega))]
def apartC (m : MacV) (s : Int) (l : List Int) : Bool := !l.any fun b => decide (b = s) || (meetC m s b).isSome
theorem apartC_ok {m : MacV} (hC : AllC m) {s : Int} (hs : InS m s) : ∀ {l : List Int} (_ : ∀ x ∈ l, InS m x), apartM m s l = apartC m s l := by
 intro l hl
 unfold apartM apartC
 congr 1
 induction l with
 | nil => rfl
 | cons b r ih =>
  rw [List.any_cons, List.any_cons, ih fun x hx => hl x (List.mem_cons_of_mem _ hx)]
  unfold hurtM
  rw [hC s b hs (hl b (by simp))]
theorem freeC_ok {m : MacV} (hC : AllC m) {l : List Int} (hl : ∀ x ∈ l, InS m x) (hs : ∀ x ∈ slotsL m, InS m x) : freeM m l = (slotsL m).filter fun s => apartC m s l := by
 unfold freeM
 exact List.filter_congr fun s h => apartC_ok hC (hs s h) hl
def extC (m : MacV) : Nat → List Int → List Int → Int → List Int
 | 0, best, _, _ => best
 | f + 1, best, l, s => if best.length < l.length + (f + 1) then extC m f (if apartC m s l then extC m f (bigger best (l ++ [s])) (l ++ [s]) (s + 1) else best) l (s + 1) else best
theorem extC_ok {m : MacV} (hC : AllC m) : ∀ (f : Nat) (best l : List Int) (s : Int) (_ : 0 ≤ s) (_ : s + f ≤ 4 * m.gears) (_ : ∀ x ∈ l, InS m x), extF m f best l s = extC m f best l s
 | 0, _, _, _, _, _, _ => rfl
 | f + 1, best, l, s, h0, h1, hl => by
   have hs : InS m s := ⟨h0, by omega⟩
   have hl2 : ∀ x ∈ l ++ [s], InS m x := fun x hx => by
     rcases List.mem_append.1 hx with h | h
     · exact hl x h
     · rw [List.mem_singleton.1 h]; exact hs
   rw [extF, extC, apartC_ok hC hs hl, extC_ok hC f _ (l ++ [s]) (s + 1) (by omega) (by omega) hl2, extC_ok hC f _ l (s + 1) (by omega) (by omega) hl]
def rowM : MacV := ⟨false, 2, 1, []⟩
theorem row_all : AllC rowM := allC_of (n := 8) rfl (by decide)
theorem row_in {l : List Int} (h : (l.all fun x => decide (0 ≤ x ∧ x < 8)) = true) : ∀ x ∈ l, InS rowM x := fun x hx => by
 have := of_decide_eq_true (List.all_eq_true.1 h x hx)
 exact ⟨this.1, by show x < 4 * 2; omega⟩
theorem row_first {l : List Int} (h : (l.all fun x => decide (0 ≤ x ∧ x < 8)) = true) : firstM rowM l = firstC rowM l := firstC_ok row_all (row_in h)
theorem rv_mac : macE rowM = 0 := by first | rfl | decide | kernel_rfl
theorem rv_perm : permM rowM = [1, 4, 3, 0, 7, 2, 5, 6] := by first | rfl | decide | kernel_rfl
theorem rv_cyc : cycK (permM rowM) (permM rowM).length = [[0, 1, 4, 7, 6, 5, 2, 3]] := by first | rfl | decide | kernel_rfl
theorem rv_per : perS (permM rowM) = ⟨#[56]⟩ := by first | rfl | decide | kernel_rfl
theorem rv_meet : meet3 rowM [0, 6] = (2, 1, 0) := by unfold meet3; rw [row_first rfl]; rfl
theorem rv_acc : accE rowM [0, 1] = 0 := by unfold accE; rw [row_first rfl]; rfl
theorem rv_fillE : fillE rowM = 0 := by first | rfl | decide | kernel_rfl
theorem rv_fill : fillM rowM = [0, 1, 2, 3] := by unfold fillM; rw [extC_ok row_all _ _ _ _ (by decide) (by decide) (by simp)]; rfl
theorem rv_acc3 : accE rowM [0, 1, 2] = 0 := by unfold accE; rw [row_first rfl]; rfl
theorem rv_free : freeM rowM [0, 1, 2] = [3, 7] := by rw [freeC_ok row_all (row_in rfl) (row_in rfl)]; rfl
theorem rv_ordE : orderE rowM [0, 4, 3] = 0 := by unfold orderE meetsM; rw [row_first rfl]; rfl
theorem rv_ord : orderM rowM [0, 4, 3] = [0, 2, 1] := by first | rfl | decide | kernel_rfl
theorem rv_crsE : crossE rowM [0, 4, 3] = 0 := by unfold crossE meetsM; rw [row_first rfl]; rfl
theorem rv_wrdE : wrdE rowM [0, 4, 3] 4 = 0 := by unfold wrdE weaveE meetsM; rw [row_first rfl]; rfl
theorem rv_wrd : wrdL rowM [0, 4, 3] 4 = [-1, 2, 1] := by first | rfl | decide | kernel_rfl
theorem rv_wvE : weaveE rowM [0, 4, 3] 4 = 0 := by unfold weaveE meetsM; rw [row_first rfl]; rfl
theorem rv_str : strandsL rowM [0, 4, 3] 4 = [2, 1, 0] := by first | rfl | decide | kernel_rfl
theorem rv_stE : stepsE rowM [0, 4, 3] 4 = 0 := by first | rfl | decide | kernel_rfl
theorem rv_st : ([0, 4, 3] : List Int).map (fun s => itM rowM s 4) = [6, 2, 7] := by first | rfl | decide | kernel_rfl
theorem rv_ldE : loadE rowM [0, 4, 3] = 0 := by first | rfl | decide | kernel_rfl
theorem rv_mir : ([0, 4, 3] : List Int).map mirM = [0, 4, 1] := by first | rfl | decide | kernel_rfl
theorem rv_mwE : wrdE (turnMac rowM) [0, 4, 1] 4 = 0 := by unfold wrdE weaveE meetsM; rw [firstC_ok (m := turnMac rowM) (l := [0, 4, 1]) (allC_of (n := 8) rfl (by decide)) (fun x hx => row_in (l := [0, 4, 1]) rfl x hx)]; rfl
theorem rv_mw : wrdL (turnMac rowM) [0, 4, 1] 4 = [1, -2, -1] := by first | rfl | decide | kernel_rfl
theorem rv_bkE : loadE rowM [4] = 0 := by first | rfl | decide | kernel_rfl
theorem rv_bk : ([4] : List Int).map (overM rowM) = [2] := by first | rfl | decide | kernel_rfl
theorem rv_print : printMB rowM = ⟨#[114, 111, 119, 32, 50, 32, 43, 32, 110, 111, 110, 101]⟩ := by first | rfl | decide | kernel_rfl
theorem rv_parse1 : parseMB [114, 105, 110, 103, 32, 50, 32, 45, 32, 48, 44, 49] = (⟨true, 2, -1, [0, 1]⟩, 0) := by first | rfl | decide | kernel_rfl
theorem rv_parse2 : (parseMB [114, 105, 110, 103, 32, 51, 32, 43, 32, 110, 111, 110, 101]).2 = 17 := by first | rfl | decide | kernel_rfl
end Go.Proofs.YtbchpkmcpplidaaGreatDoor
