/- Contracts: the examples' stand and round. No condition. -/
import Derived.Test.YtogbclcnmogaeaaGreatDoorPlA
import Derived.Test.YtogbclcnmogaeaaGreatDoorTyA
set_option linter.all false
namespace Go.Proofs.YtogbclcnmogaeaaGreatDoor
open Go.RowKit
set_option maxHeartbeats 1000000
set_option maxRecDepth 100000

theorem reps_of_own {α : Type} {c : α → Value} {sz B : Nat} {e : TypeId} {w : World} {a : Option Addr} {n cap : Nat} {l : List α} (h : Own c sz B e w (.slice a n cap) l) (hn : n = l.length) : Reps c sz w a cap l := by
  subst hn
  obtain ⟨a', cap', e1, hr, _⟩ := h.reps
  cases e1
  exact hr

def standX : List Int := [1, 2, 0, 0, 3, 4, 0, 0]
theorem stand_any (w : World) : Calls Tryz.prog 96 #[] w fun r w' => ∃ v, r = .returned v ∧ OwnI w.heap.size w' v standX ∧ Below w.heap.size w w' := by
  go_enter Tryz.func96, Tryz.ntmps96
  go_wp2
  go_ret
  exact ⟨_, rfl, own_newN cIntS standX 8 rfl (by decide) _ rfl (Nat.le_refl _) rfl, bal (Below.refl _ _) _⟩
def roundX : List (Int × Int) := [(1, 3), (5, 7), (0, 1), (4, 5), (3, 4), (7, 0)]
theorem roundX_any (w : World) : Calls Tryz.prog 97 #[] w fun r w' => ∃ v, r = .returned v ∧ Own cPair 2 w.heap.size 31 w' v roundX ∧ Below w.heap.size w w' := by
  go_enter Tryz.func97, Tryz.ntmps97
  go_wp2
  go_ret
  exact ⟨_, rfl, own_newN cPairS roundX 6 rfl (by decide) _ rfl (Nat.le_refl _) rfl, bal (Below.refl _ _) _⟩
end Go.Proofs.YtogbclcnmogaeaaGreatDoor
