/- Contract: PlaitTurns returns true. Conditions: the slices can be read, the numbers fit an int. -/
import Derived.Test.YtmomeggnegcheaaGreatDoorRB
import Derived.Test.YtmomeggnegcheaaGreatDoorAwA
set_option linter.all false
namespace Go.Proofs.YtmomeggnegcheaaGreatDoor
open Go.RowKit
set_option maxHeartbeats 2000000
set_option maxRecDepth 100000

theorem lfirst_any (a : Option Addr) (cap : Nat) (l : List Int) (w : World) (h : Ints w a cap l) :
    Calls Tryz.prog 15 #[.slice a l.length cap] w fun r w' => r = .returned (.int .i64 (firstE l)) ∧ w = w' := by
  have hcap := h.le
  have hm := h.max
  go_enter Tryz.func15, Tryz.ntmps15
  go_wp2
  go_loop [7] (fun i => ∃ k : Nat, k ≤ l.length ∧ i = .int .i64 k ∧ firstE (l.drop k) = firstE l) (fun i => l.length - (intOf i).toNat)
  case atStart => exact ⟨0, by omega, rfl, by simp⟩
  case round =>
    obtain ⟨k, hk, rfl, hf⟩ := hrel
    by_cases hlt : k < l.length
    · have hs := firstE_drop l k hlt
      have HF := hid hf; clear hf
      have HS := hid hs; clear hs
      go_wp2_with (with_reducible refine wpList_idx _ 0 E_ints F_int cInt1 (by with_unfolding_all rfl) (by with_unfolding_all rfl) (h) (by first | omega | (simp; done)) (by first | omega | (simp; done)) (fun _ => by with_unfolding_all rfl) (fun _ => ?_))
      · go_ret
        have h1 : (atD 0 l k != 0) = true := by assumption
        refine ⟨?_, rfl⟩
        have := HS.out; rw [HF.out, h1, if_pos rfl] at this; rw [this]; rfl
      · go_round
        case rel =>
          have h1 : (atD 0 l k != 0) = false := by assumption
          refine ⟨k + 1, by omega, by go_num, ?_⟩
          have := HS.out; rw [HF.out, h1] at this; exact this.symm
        case measure => simp [intOf]; omega
    · have : k = l.length := by omega
      subst this
      rw [firstE_end] at hf
      have HF := hid hf; clear hf
      go_wp2
      go_ret
      exact ⟨by rw [← HF.out]; rfl, rfl⟩

end Go.Proofs.YtmomeggnegcheaaGreatDoor
