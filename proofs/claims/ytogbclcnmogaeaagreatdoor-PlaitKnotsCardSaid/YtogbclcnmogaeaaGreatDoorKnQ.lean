/- Plain facts for PlaitKnots: marks, rows as texts, the letters of a mat. No condition. -/
import Derived.Test.YtogbclcnmogaeaaGreatDoorKnP
import Derived.Test.YtogbclcnmogaeaaGreatDoorKnB
set_option linter.all false
namespace Go.Proofs.YtogbclcnmogaeaaGreatDoor
open Go.RowKit
set_option maxHeartbeats 1000000
set_option maxRecDepth 100000

theorem routesL_pre (x y k : Nat) : ∀ n, k ≤ n → ∃ v, routesL x y n = routesL x y k ++ v
  | 0, h => ⟨[], by rw [show k = 0 by omega]; simp⟩
  | n + 1, h => by
    by_cases e : k = n + 1
    · subst e; exact ⟨[], by simp⟩
    · obtain ⟨v, hv⟩ := routesL_pre x y k n (by omega)
      exact ⟨v ++ routeL (x : Int) (y : Int) (n : Int), by rw [routesL_succ, hv, List.append_assoc]⟩
theorem knot_new {x y k j : Nat} (h : KnotR x y) (hk : k < Nat.gcd x y) (hj : j < (routeL (x : Int) (y : Int) (k : Int)).length) : atD 0 (routeL (x : Int) (y : Int) (k : Int)) j ∉ routesL x y k ++ (routeL (x : Int) (y : Int) (k : Int)).take j := by
  obtain ⟨v, hv⟩ := routesL_pre x y (k + 1) (Nat.gcd x y) hk
  have hn := h.nd
  rw [hv, routesL_succ] at hn
  have hn2 := (List.nodup_append.1 hn).1
  obtain ⟨R, hR⟩ : ∃ R, R = routeL (x : Int) (y : Int) (k : Int) := ⟨_, rfl⟩
  rw [← hR] at hn2 hj ⊢
  have e : R = R.take j ++ R.drop j := (List.take_append_drop j R).symm
  rw [e, ← List.append_assoc] at hn2
  have hd := (List.nodup_append.1 hn2).2.2
  have ha : atD 0 R j = R[j] := by simp [atD, hj]
  have hm : atD 0 R j ∈ R.drop j := by rw [ha, List.drop_eq_getElem_cons hj]; exact List.mem_cons_self
  intro hc
  exact hd _ hc _ hm rfl
theorem repC_at (c : UInt8) (n j : Nat) (h : j < (repC c n).size) : (((repC c n)[j]'h).toNat : Int) = c.toNat := by
  rw [ByteArray.getElem_eq_getElem_data]
  simp [repC]
theorem headA_abs (k : Nat) : absI (headA k) = (k : Int) + 1 := by
  unfold headA absI
  have h : (k : Int) % 2 = 0 ∨ (k : Int) % 2 = 1 := by omega
  rcases h with h | h <;> rw [h] <;> split <;> omega
theorem headR_fit (m : Nat) : ∀ (y : Nat), ∀ x ∈ headR m y, 1 ≤ absI x ∧ absI x < (m : Int) + 1
  | 0, x, hx => by simp [headR] at hx
  | y + 1, x, hx => by
    rw [headR_succ] at hx
    rcases List.mem_append.1 hx with hx | hx
    · exact headR_fit m y x hx
    · obtain ⟨k, hk, rfl⟩ := List.mem_map.1 hx
      have := List.mem_range.1 hk
      rw [headA_abs]; omega
theorem wordE_fit {n : Int} {l : List Int} (h1 : 1 ≤ n) (h2 : n ≤ 12) (hl : l.length ≤ 200) (hf : ∀ x ∈ l, 1 ≤ absI x ∧ absI x < n) : wordE n l = 0 := by
  rw [wordE_any (by unfold strandsE; rw [if_neg (by omega)]) hl]
  rw [if_neg]
  intro h
  obtain ⟨x, hx, hb⟩ := List.any_eq_true.1 h
  obtain ⟨a, b⟩ := hf x hx
  unfold outB at hb
  unfold absI at a b
  simp at hb
  split at a <;> split at b <;> omega
end Go.Proofs.YtogbclcnmogaeaaGreatDoor
