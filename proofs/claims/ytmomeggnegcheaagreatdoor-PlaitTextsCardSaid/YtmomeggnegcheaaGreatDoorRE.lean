/- Contracts of the references: size, run, letter, CheckWord, ShortWord. Conditions: numbers and sizes as stated. -/
import Derived.Test.YtmomeggnegcheaaGreatDoorRA
import Derived.Test.YtmomeggnegcheaaGreatDoorPs1
set_option linter.all false
namespace Go.Proofs.YtmomeggnegcheaaGreatDoor
open Go.RowKit
set_option maxHeartbeats 1000000
set_option maxRecDepth 100000

theorem wordE_any {n : Int} {l : List Int} (h : strandsE n = 0) (h2 : l.length ≤ 200) : wordE n l = if l.any (outB n) then 3 else 0 := by
  unfold wordE
  rw [if_neg (fun hh => hh h), if_neg (by omega)]
  have key : (0 ≤ idxGo n l 0 l.length) ↔ l.any (outB n) = true := by
    rw [idxGo_neg, List.any_eq_true]
    constructor
    · rintro ⟨j, _, hj, ho⟩
      exact ⟨atD 0 l j, by simp [atD, show j < l.length by omega], ho⟩
    · rintro ⟨x, hx, ho⟩
      obtain ⟨j, hj, rfl⟩ := List.getElem_of_mem hx
      exact ⟨j, by omega, by omega, by simpa [atD, hj] using ho⟩
  by_cases c : l.any (outB n) = true
  · rw [if_pos (key.2 c), if_pos c]
  · rw [if_neg (fun h => c (key.1 h)), if_neg c]
end Go.Proofs.YtmomeggnegcheaaGreatDoor
