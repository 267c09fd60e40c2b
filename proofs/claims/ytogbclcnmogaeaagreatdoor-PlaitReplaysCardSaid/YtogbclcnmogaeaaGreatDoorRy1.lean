/- Contract: Replay. Conditions: slices readable, numbers fit an int, sizes as stated. -/
import Derived.Test.YtogbclcnmogaeaaGreatDoorPlB
import Derived.Test.YtogbclcnmogaeaaGreatDoorSm1
set_option linter.all false
namespace Go.Proofs.YtogbclcnmogaeaaGreatDoor
open Go.RowKit
set_option maxHeartbeats 1000000
set_option maxRecDepth 100000

def replayE (l : List Int) (ms : List (Int × Int)) : Int := if checkStand l ≠ 0 then checkStand l else manyE ms.length
def replayT (l : List Int) (ms : List (Int × Int)) : List Int := if replayE l ms = 0 then (replayL l ms).1 else []
def replayA (l : List Int) (ms : List (Int × Int)) : List (Int × Int) := if replayE l ms = 0 then (replayL l ms).2 else []
theorem Replay_any (a a2 : Option Addr) (cap cap2 : Nat) (l : List Int) (ms : List (Int × Int)) (w : World) (hS : Ints w a cap l) (hM : Pairs w a2 cap2 ms) (hI : ∀ x ∈ l, InI x) (hms : ms.length ≤ 1048576) :
    Calls Tryz.prog 78 #[.slice a l.length cap, .slice a2 ms.length cap2] w fun r w' => ∃ a' cap' a3 cap3, r = .returned (.tuple #[.slice a' (replayT l ms).length cap', .slice a3 (replayA l ms).length cap3, .int .i64 (replayE l ms)]) ∧ Ints w' a' cap' (replayT l ms) ∧ Pairs w' a3 cap3 (replayA l ms) ∧ Below w.heap.size w w' := by
  have hcap := hS.le
  have hm := hS.max
  have hcap2 := hM.le
  have hm2 := hM.max
  have hc := CheckStand_any a cap l w hS hI
  by_cases h : checkStand l = 0
  · have hsz := (checkStand_zero h).1
    have hsz2 := (checkStand_zero h).2.1
    rw [h] at hc
    have HC := hid hc; clear hc
    by_cases hn : manyE ms.length = 0
    · have e0 : replayE l ms = 0 := by simp [replayE, h, hn]
      have e1 : replayT l ms = (replayL l ms).1 := if_pos e0
      have e2 : replayA l ms = (replayL l ms).2 := if_pos e0
      rw [e0, e1, e2]
      have HN := hid hn; clear hn h e0 e1 e2
      go_enter Tryz.func78, Tryz.ntmps78
      go_wp2_with fail
      refine HC.out.mono ?_
      rintro e w1 ⟨rfl, hb1⟩
      go_wp2_with fail
      refine (checkMoves_any a2 cap2 ms.length w1 hms).mono ?_
      rw [HN.out]
      rintro e w2 ⟨rfl, rfl⟩
      go_wp2_with (go_at_call 99; refine (first_any _ _ [_, _] _ (reps_newN cIntS [_, _] 2 rfl (by decide) _ _ (by simp) rfl)).mono ?_; rintro e w' ⟨rfl, rfl⟩)
      refine (replay_any a a2 cap cap2 l ms _ ((hS.below hb1).alloc _) ((hM.below hb1).alloc _) (by omega) (by omega) hms).mono ?_
      rintro e w3 ⟨a3, cap3, v3, rfl, hlen3, hS3, hA3, hf3, hb3⟩
      obtain ⟨a4, cap4, rfl, hr4, _, _⟩ := hA3.reps
      have b3 := bnext (bal hb1 _) hb3
      go_wp2_with fail
      go_ret3
      rw [hlen3]
      exact ⟨a3, cap3, a4, cap4, rfl, hS3, hr4, b3⟩
    · have hr : replayE l ms = manyE ms.length := by simp [replayE, h]
      have e1 : replayT l ms = [] := if_neg (by rw [hr]; exact hn)
      have e2 : replayA l ms = [] := if_neg (by rw [hr]; exact hn)
      rw [e1, e2, hr]
      clear e1 e2
      have hne : (manyE ms.length != 0) = true := by simpa using hn
      have HN := hid hn; clear hn h hr
      go_enter Tryz.func78, Tryz.ntmps78
      go_wp2_with fail
      refine HC.out.mono ?_
      rintro e w1 ⟨rfl, hb1⟩
      go_wp2_with fail
      refine (checkMoves_any a2 cap2 ms.length w1 hms).mono ?_
      rintro e w2 ⟨rfl, rfl⟩
      go_wp2_with (go_at_call 99; refine (first_any _ _ [_, _] _ (reps_newN cIntS [_, _] 2 rfl (by decide) _ _ (by simp) rfl)).mono ?_; rintro e w' ⟨rfl, rfl⟩)
      go_ret3
      exact ⟨none, 0, none, 0, rfl, ints_nil _, pairs_nil _, bal hb1 _⟩
  · have hr : replayE l ms = checkStand l := by simp [replayE, h]
    have e1 : replayT l ms = [] := if_neg (by rw [hr]; exact h)
    have e2 : replayA l ms = [] := if_neg (by rw [hr]; exact h)
    rw [e1, e2, hr]
    clear e1 e2 hr
    have hne : (checkStand l != 0) = true := by simpa using h
    obtain ⟨q, hq⟩ : ∃ q, q = checkStand l := ⟨_, rfl⟩
    rw [← hq] at hc h hne ⊢
    obtain ⟨q2, hq2⟩ : ∃ q, q = manyE ms.length := ⟨_, rfl⟩
    have hck := checkMoves_any a2 cap2 ms.length
    rw [← hq2] at hck
    have HC := hid hc; have HCK := hid hck; clear hc hq hq2 hck
    go_enter Tryz.func78, Tryz.ntmps78
    go_wp2_with fail
    refine HC.out.mono ?_
    rintro e w1 ⟨rfl, hb1⟩
    go_wp2_with fail
    refine (HCK.out w1 hms).mono ?_
    rintro e w2 ⟨rfl, rfl⟩
    go_wp2_with (go_at_call 99; refine (first_any _ _ [_, _] _ (reps_newN cIntS [_, _] 2 rfl (by decide) _ _ (by simp) rfl)).mono ?_; rintro e w' ⟨rfl, rfl⟩)
    go_ret3
    exact ⟨none, 0, none, 0, rfl, ints_nil _, pairs_nil _, bal hb1 _⟩
end Go.Proofs.YtogbclcnmogaeaaGreatDoor
