/- Contracts of the reference: Turned, Alike. Conditions: slices readable, numbers fit an int, sizes as stated. -/
import Derived.Test.YtmomeggnegcheaaGreatDoorRA
import Derived.Test.YtmomeggnegcheaaGreatDoorAlA
set_option linter.all false
namespace Go.Proofs.YtmomeggnegcheaaGreatDoor
open Go.RowKit
set_option maxHeartbeats 1000000
set_option maxRecDepth 100000

theorem sameAt_iff (l t : List Int) (b : Int) : ∀ (n k : Nat), sameAt l t b k n = true ↔ ∀ j : Nat, k ≤ j → j < k + n → atD 0 t (((j : Int) + b) % t.length) = atD 0 l j
  | 0, k => by simp [sameAt]; omega
  | n + 1, k => by
    rw [sameAt, Bool.and_eq_true, decide_eq_true_iff, sameAt_iff l t b n (k + 1)]
    constructor
    · rintro ⟨h1, h2⟩ j hj hj2
      rcases Nat.eq_or_lt_of_le hj with rfl | h
      · exact h1
      · exact h2 j (by omega) (by omega)
    · intro h
      exact ⟨h k (Nat.le_refl _) (by omega), fun j hj hj2 => h j (by omega) (by omega)⟩
theorem sameAt_turned {l t : List Int} (h : l.length = t.length) {b : Nat} (hb : b < l.length) : sameAt l t b 0 l.length = decide (turnedL l ((b : Int) % l.length) = t) := by
  have hn : (0 : Int) < l.length := by omega
  rw [Int.emod_eq_of_lt (by omega) (by omega), Bool.eq_iff_iff, decide_eq_true_iff, sameAt_iff]
  constructor
  · intro h'
    refine ext_atD (by rw [turnedL_len, h]) (fun j hj0 hj1 => ?_)
    rw [turnedL_len] at hj1
    rw [atD_turned hj0 hj1]
    have r0 := Int.emod_nonneg (j - b) (by omega : (l.length : Int) ≠ 0)
    have r1 := Int.emod_lt_of_pos (j - b) hn
    have := h' ((j - b) % l.length).toNat (by omega) (by omega)
    rw [Int.toNat_of_nonneg r0, ← h, Int.emod_add_emod, Int.sub_add_cancel, Int.emod_eq_of_lt hj0 hj1] at this
    exact this.symm
  · rintro rfl j _ hj
    have r0 := Int.emod_nonneg ((j : Int) + b) (by omega : (l.length : Int) ≠ 0)
    have r1 := Int.emod_lt_of_pos ((j : Int) + b) hn
    rw [turnedL_len, atD_turned r0 r1, Int.emod_sub_emod, Int.add_sub_cancel, Int.emod_eq_of_lt (by omega) (by omega)]
theorem alikeGo_step {l t : List Int} (h : l.length = t.length) {b : Nat} (hb : b < l.length) : alikeGo l t b (l.length - b) = if decide (turnedL l ((b : Int) % l.length) = t) = true then (b : Int) else alikeGo l t (b + 1) (l.length - (b + 1)) := by
  rw [show l.length - b = (l.length - (b + 1)) + 1 by omega, alikeGo, sameAt_turned h hb]

end Go.Proofs.YtmomeggnegcheaaGreatDoor
