/- Contract: run. Conditions: slice readable, letters small. -/
import Derived.Test.YtogbclcnmogaeaaGreatDoorQA
import Derived.Test.YtogbclcnmogaeaaGreatDoorPnA
set_option linter.all false
namespace Go.Proofs.YtogbclcnmogaeaaGreatDoor
open Go.RowKit
set_option maxHeartbeats 400000
set_option maxRecDepth 100000

/-- how many letters from the k-th on follow the first one in a direction. -/
def runGo (l : List Int) (by_ : Int) : Nat → Nat → Nat
  | k, 0 => k
  | k, f + 1 => if k < l.length ∧ absI (atD 0 l k) = absI (atD 0 l 0) + by_ * k then runGo l by_ (k + 1) f else k
def runN (l : List Int) (by_ : Int) : Nat := runGo l by_ 1 l.length

theorem run_any (b : Int) (a : Option Addr) (cap : Nat) (l : List Int) (w : World) (hS : Ints w a cap l) (hb : b = 1 ∨ b = -1) (h0 : 0 < l.length) (hsm : l.length ≤ 1048576) (hL : ∀ k : Nat, k < l.length → -1000 ≤ atD 0 l k ∧ atD 0 l k ≤ 1000) :
    Calls Tryz.prog 114 #[.slice a l.length cap, .int .i64 b] w fun r w' => r = .returned (.int .i64 (runN l b)) ∧ Below w.heap.size w w' := by
  have hcap := hS.le
  have hm := hS.max
  go_enter Tryz.func114, Tryz.ntmps114
  go_wp2
  go_loopw [5] (fun i wr => ∃ k f : Nat, 1 ≤ k ∧ k ≤ l.length ∧ l.length ≤ k + f ∧ i = .int .i64 k ∧ runGo l b k f = runN l b ∧ Below w.heap.size w wr) (fun i _ => l.length - (intOf i).toNat)
  case atStart => exact ⟨1, l.length, by omega, by omega, by omega, rfl, rfl, Below.refl _ _⟩
  case round =>
    obtain ⟨k, f, hk1, hk, hf, rfl, hr, hbr⟩ := hrel
    have HR := hid hr; clear hr
    have hSr := hS.below hbr
    have hl0 := hL 0 h0
    by_cases hlt : k < l.length
    · have hlk := hL k hlt
      have hd : decide (k < l.length) = true := by simpa using hlt
      have c1 : ∀ w' : World, Calls Tryz.prog 115 #[.int .i64 (atD 0 l k)] w' fun r w'' => r = .returned (.int .i64 (absI (atD 0 l k))) ∧ w' = w'' := fun w' => size_any _ w' (by omega) (by omega)
      have c2 : ∀ w' : World, Calls Tryz.prog 115 #[.int .i64 (atD 0 l 0)] w' fun r w'' => r = .returned (.int .i64 (absI (atD 0 l 0))) ∧ w' = w'' := fun w' => size_any _ w' (by simp at hl0; omega) (by simp at hl0; omega)
      have C1 := hid c1; clear c1
      have C2 := hid c2; clear c2
      go_wp2_with fail
      refine wp_region_quiet_lit (by kernel_rfl) (by kernel_rfl) ?_
      repeat (first | ((with_reducible refine wpQD_idxG 0 E_ints F_int cInt1 (by with_unfolding_all rfl) (by with_unfolding_all rfl) (hSr) (rfl) (by first | omega | (simp; done)) (by first | omega | (simp; done)) (fun _ => by with_unfolding_all rfl) (by with_unfolding_all rfl) (fun _ => by with_unfolding_all rfl) (fun _ => ?_)); (try simp only [Act.put, List.setIfInBounds_toArray, List.set_cons_zero, List.set_cons_succ]); (try simp only [cInt])) | quiet_step (first | exact quiet_same (C1.out _) | exact quiet_same (C2.out _)))
      refine wpQuiet_nil ?_
      intro w2 hb2
      replace hb2 := below_drewN hb2
      have hbk : -1048576 ≤ b * (k : Int) ∧ b * (k : Int) ≤ 1048576 := by
        rcases hb with rfl | rfl
        · omega
        · omega
      have ha0 : 0 ≤ absI (atD 0 l 0) ∧ absI (atD 0 l 0) ≤ 1000 := by simp at hl0; unfold absI; split <;> omega
      have hw1 : IntKind.i64.wrap (b * (k : Int)) = b * k := IntWalk.i64_in _ (by omega)
      have hw2 : IntKind.i64.wrap (absI (atD 0 l 0) + b * (k : Int)) = absI (atD 0 l 0) + b * k := IntWalk.i64_in _ (by omega)
      have HW1 := hid hw1; clear hw1
      have HW2 := hid hw2; clear hw2
      have HBK := hid hbk; clear hbk
      obtain ⟨g, rfl⟩ : ∃ g, f = g + 1 := ⟨f - 1, by omega⟩
      go_wp2_with fail
      · have hq : (absI (atD 0 l k) == IntKind.i64.wrap (absI (atD 0 l 0) + IntKind.i64.wrap (b * (k : Int)))) = true := by assumption
        rw [HW1.out, HW2.out] at hq
        have hr := HR.out
        rw [runGo, if_pos ⟨hlt, by simpa using hq⟩] at hr
        exact ⟨⟨k + 1, g, by omega, by omega, by omega, by go_num, hr, bnext hbr hb2⟩, by simp [intOf]; omega⟩
      · have hq : (absI (atD 0 l k) == IntKind.i64.wrap (absI (atD 0 l 0) + IntKind.i64.wrap (b * (k : Int)))) = false := by assumption
        rw [HW1.out, HW2.out] at hq
        have hr := HR.out
        rw [runGo, if_neg (fun h => by simp [h.2] at hq)] at hr
        go_ret
        exact ⟨by rw [← hr]; rfl, bnext hbr hb2⟩
    · have hd : decide (k < l.length) = false := by simpa using hlt
      have hr := HR.out
      have hr2 : k = runN l b := by
        rw [← hr]
        cases f with
        | zero => rfl
        | succ f => rw [runGo, if_neg (fun h => hlt h.1)]
      have HR2 := hid hr2; clear hr2 hr
      go_wp2_with fail
      refine wp_region_quiet_lit (by kernel_rfl) (by kernel_rfl) ?_
      repeat (first | ((with_reducible refine wpQ_skip (by with_unfolding_all rfl) ?_); (try simp only [Act.put, List.setIfInBounds_toArray, List.set_cons_zero, List.set_cons_succ])) | quiet_step (fail))
      refine wpQuiet_nil ?_
      intro w2 hb2
      replace hb2 := below_drewN hb2
      go_wp2_with fail
      go_ret
      exact ⟨by rw [← HR2.out]; rfl, bnext hbr hb2⟩
end Go.Proofs.YtogbclcnmogaeaaGreatDoor
