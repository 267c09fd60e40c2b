/- Contract: Rounds. Conditions: slices readable, numbers fit an int, sizes as stated; Itoa answers at the period. -/
import Derived.Test.YtogbclcnmogaeaaGreatDoorPe1
import Derived.Test.YtogbclcnmogaeaaGreatDoorPlB
set_option linter.all false
namespace Go.Proofs.YtogbclcnmogaeaaGreatDoor
open Go.RowKit
set_option maxHeartbeats 1000000
set_option maxRecDepth 100000

theorem plc_bd (t : List Int) (x : Int) : ∀ k, 0 ≤ plc t k x ∧ plc t k x ≤ k
  | 0 => by simp [plc]
  | k + 1 => by
    have := plc_bd t x k
    rw [plc]; split <;> omega
theorem RoundL_ok {l : List Int} {ms : List (Int × Int)} (h : roundE l ms = 0) : (RoundL l ms).length = l.length ∧ l.length ≤ 64 ∧ ∀ y ∈ RoundL l ms, 0 ≤ y ∧ y ≤ 64 := by
  obtain ⟨hcs, _, _, _⟩ := roundE_zero h
  have hsz := (checkStand_zero hcs).2.1
  have e : RoundL l ms = permL l (replayL l ms).1 l.length := by rw [RoundL, if_pos h]
  rw [e]
  refine ⟨permL_len _ _ _, hsz, fun y hy => ?_⟩
  obtain ⟨i, hi, rfl⟩ := List.mem_map.1 hy
  have hi := List.mem_range.1 hi
  unfold goes
  split
  · have := plc_bd (replayL l ms).1 (atD 0 l i) (replayL l ms).1.length
    rw [replayL_len] at this ⊢
    omega
  · omega
def roundsE (l : List Int) (ms : List (Int × Int)) : Int := if roundE l ms = 0 then permE (RoundL l ms) else roundE l ms
def roundsB (l : List Int) (ms : List (Int × Int)) : ByteArray := if roundE l ms = 0 then perS (RoundL l ms) else ⟨#[]⟩

theorem Rounds_any (a a2 : Option Addr) (cap cap2 : Nat) (l : List Int) (ms : List (Int × Int)) (w : World) (hS : Ints w a cap l) (hM : Pairs w a2 cap2 ms) (hI : ∀ x ∈ l, InI x) (hms : ms.length ≤ 1048576)
    (hIt : roundE l ms = 0 → permE (RoundL l ms) = 0 → ItoaOk w (periodN (RoundL l ms))) :
    Calls Tryz.prog 35 #[.slice a l.length cap, .slice a2 ms.length cap2] w fun r w' => r = .returned (.tuple #[.string (roundsB l ms), .int .i64 (roundsE l ms)]) ∧ Below w.heap.size w w' := by
  have HR := hid (Round_any a a2 cap cap2 l ms w hS hM hI hms)
  by_cases h : roundE l ms = 0
  · obtain ⟨h1, h2, h3⟩ := RoundL_ok h
    have e1 : roundsB l ms = perS (RoundL l ms) := by unfold roundsB; rw [if_pos h]
    have e2 : roundsE l ms = permE (RoundL l ms) := by unfold roundsE; rw [if_pos h]
    rw [e1, e2]
    have hr := HR.out
    rw [h] at hr
    have hit := hIt h
    clear e1 e2 HR h hIt
    have HR := hid hr; clear hr
    have HIT := hid hit; clear hit
    obtain ⟨p, hp⟩ : ∃ p, p = RoundL l ms := ⟨_, rfl⟩
    rw [← hp] at HR HIT h1 h3 ⊢
    clear hp
    have H1 := hid h1; clear h1
    have H3 := hid h3; clear h3
    go_enter Tryz.func35, Tryz.ntmps35
    go_wp2_with fail
    refine HR.out.mono ?_
    intro e w1 hret
    obtain ⟨a1, cap1, rfl, hS1, hf1, hb1⟩ := hret.out
    go_wp2_with fail
    refine (Period_any a1 cap1 p w1 hS1 (fun x hx => by have := H3.out x hx; unfold InI; omega) (by rw [H1.out]; exact h2) (fun he => (HIT.out he).below hb1)).mono ?_
    rintro e w2 ⟨rfl, hb2⟩
    go_wp2_with fail
    go_ret2
    exact ⟨rfl, bnext hb1 hb2⟩
  · have e1 : roundsB l ms = ⟨#[]⟩ := by unfold roundsB; rw [if_neg h]
    have e2 : roundsE l ms = roundE l ms := by unfold roundsE; rw [if_neg h]
    have e3 : RoundL l ms = [] := by rw [RoundL, if_neg h]
    have hne : (roundE l ms != 0) = true := by simpa using h
    rw [e1, e2]
    have hr := HR.out
    rw [e3] at hr
    clear e1 e2 e3 HR h hIt
    have HR := hid hr; clear hr
    go_enter Tryz.func35, Tryz.ntmps35
    go_wp2_with fail
    refine HR.out.mono ?_
    intro e w1 hret
    obtain ⟨a1, cap1, rfl, hS1, hf1, hb1⟩ := hret.out
    go_wp2_with fail
    go_ret2
    exact ⟨rfl, hb1⟩
end Go.Proofs.YtogbclcnmogaeaaGreatDoor
