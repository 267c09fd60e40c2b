/- Plain facts on mats: routes, and the cycles of the word of a mat, for up to 30 leads and bights (by the kernel). No condition. -/
import Derived.Test.YtogbclcnmogaeaaGreatDoorEnP
import Derived.Test.YtogbclcnmogaeaaGreatDoorRD
set_option linter.all false
namespace Go.Proofs.YtogbclcnmogaeaaGreatDoor
open Go.RowKit
set_option maxHeartbeats 1000000
set_option maxRecDepth 100000

def nodupB : List Int → Bool
  | [] => true
  | x :: r => (r.all fun y => !(y == x)) && nodupB r
theorem nodupB_iff : ∀ {l : List Int}, nodupB l = true → l.Nodup
  | [], _ => List.nodup_nil
  | x :: r, h => by
    rw [nodupB, Bool.and_eq_true, List.all_eq_true] at h
    refine List.nodup_cons.2 ⟨fun hx => ?_, nodupB_iff h.2⟩
    have := h.1 x hx
    simp at this
def routesL (x y n : Nat) : List Int := ((List.range n).map fun (k : Nat) => routeL (x : Int) (y : Int) (k : Int)).flatten
def knotI (x y : Nat) (l : List Int) (q i : Nat) : Bool :=
  decide (0 ≤ atD 0 l i) && decide (atD 0 l i < (y : Int)) && decide (atD 0 l (((i + 1) % q : Nat) : Int) = (atD 0 l i + x) % y)
def knotK (x y q k : Nat) : Bool :=
  decide ((routeL (x : Int) (y : Int) (k : Int)).length = q) && decide (atD 0 (routeL (x : Int) (y : Int) (k : Int)) 0 = (k : Int)) && (List.range q).all (knotI x y (routeL (x : Int) (y : Int) (k : Int)) q)
def knotR (x y : Nat) : Bool := (List.range (Nat.gcd x y)).all (knotK x y (y / Nat.gcd x y)) && nodupB (routesL x y (Nat.gcd x y))
theorem knots_route : ((List.range 31).all fun x => (List.range 31).all fun y => (decide (x < 2) || decide (y < 2) || knotR x y)) = true := by kernel_rfl
structure KnotR (x y : Nat) : Prop where
  one : ∀ k : Nat, k < Nat.gcd x y → (routeL (x : Int) (y : Int) (k : Int)).length = y / Nat.gcd x y ∧ atD 0 (routeL (x : Int) (y : Int) (k : Int)) 0 = (k : Int) ∧
    ∀ i : Nat, i < y / Nat.gcd x y → (0 ≤ atD 0 (routeL (x : Int) (y : Int) (k : Int)) i ∧ atD 0 (routeL (x : Int) (y : Int) (k : Int)) i < (y : Int)) ∧
      atD 0 (routeL (x : Int) (y : Int) (k : Int)) (((i + 1) % (y / Nat.gcd x y) : Nat) : Int) = (atD 0 (routeL (x : Int) (y : Int) (k : Int)) i + x) % y
  nd : (routesL x y (Nat.gcd x y)).Nodup
theorem knot_r {x y : Nat} (h1 : 2 ≤ x) (h2 : x ≤ 30) (h3 : 2 ≤ y) (h4 : y ≤ 30) : KnotR x y := by
  have h := List.all_eq_true.1 (List.all_eq_true.1 knots_route x (List.mem_range.2 (by omega))) y (List.mem_range.2 (by omega))
  have e1 : decide (x < 2) = false := by simp; omega
  have e2 : decide (y < 2) = false := by simp; omega
  rw [e1, e2, Bool.false_or, Bool.false_or, knotR, Bool.and_eq_true, List.all_eq_true] at h
  refine ⟨fun k hk => ?_, nodupB_iff h.2⟩
  have hk2 := h.1 k (List.mem_range.2 hk)
  simp only [knotK, Bool.and_eq_true, decide_eq_true_eq, List.all_eq_true] at hk2
  refine ⟨hk2.1.1, hk2.1.2, fun i hi => ?_⟩
  have hi2 := hk2.2 i (List.mem_range.2 hi)
  simp only [knotI, Bool.and_eq_true, decide_eq_true_eq] at hi2
  exact ⟨hi2.1, hi2.2⟩
theorem routesL_succ (x y k : Nat) : routesL x y (k + 1) = routesL x y k ++ routeL (x : Int) (y : Int) (k : Int) := by
  unfold routesL; rw [List.range_succ, List.map_append, List.flatten_append]; simp

/-! the word of a mat -/
theorem row5_app : ∀ (a b st : List Int), row5 st (a ++ b) = row5 (row5 st a) b
  | [], _, _ => rfl
  | x :: r, b, st => by rw [List.cons_append, row5, row5]; exact row5_app r b _
def headGo (m : Nat) : Nat → List Int → Nat → Bool
  | 0, _, _ => true
  | f + 1, st, y => (decide (200 < m * (y + 1)) || decide ((cycK (invL (row5 st (headK m))) (m + 1)).length = Nat.gcd (m + 1) (y + 1))) && headGo m f (row5 st (headK m)) (y + 1)
theorem heads_cyc : ((List.range 12).all fun m => headGo m 30 (idL (m + 1)) 0) = true := by kernel_rfl
theorem headGo_spec (m : Nat) : ∀ (f y : Nat), headGo m f (row5 (idL (m + 1)) (headR m y)) y = true → ∀ z, y < z → z ≤ y + f → m * z ≤ 200 → (cycK (invL (row5 (idL (m + 1)) (headR m z))) (m + 1)).length = Nat.gcd (m + 1) z
  | 0, y, _, z, h1, h2, _ => by omega
  | f + 1, y, h, z, h1, h2, h3 => by
    rw [headGo, ← row5_app, ← headR_succ, Bool.and_eq_true] at h
    by_cases e : z = y + 1
    · subst e
      have := h.1
      rw [Bool.or_eq_true, decide_eq_true_eq, decide_eq_true_eq] at this
      rcases this with h4 | h4
      · omega
      · exact h4
    · exact headGo_spec m f (y + 1) h.2 z (by omega) (by omega) h3
theorem head_cyc {m y : Nat} (hm : m ≤ 11) (h1 : 0 < y) (h2 : y ≤ 30) (h3 : m * y ≤ 200) : (cycK (invL (row5 (idL (m + 1)) (headR m y))) (m + 1)).length = Nat.gcd (m + 1) y := by
  have h := List.all_eq_true.1 heads_cyc m (List.mem_range.2 (by omega))
  refine headGo_spec m 30 0 ?_ y h1 (by omega) h3
  have : headR m 0 = [] := rfl
  rw [this]; exact h
end Go.Proofs.YtogbclcnmogaeaaGreatDoor
