/- Contracts of the reference: CheckMat, Strands, Route, Mat, CheckHead, Head. Conditions: sizes as stated. -/
import Derived.Test.YtmomeggnegcheaaGreatDoorRA
import Derived.Test.YtmomeggnegcheaaGreatDoorSnA
import Derived.Test.YtmomeggnegcheaaGreatDoorAlA
import Derived.Test.YtmomeggnegcheaaGreatDoorPnA
set_option linter.all false
namespace Go.Proofs.YtmomeggnegcheaaGreatDoor
open Go.RowKit
set_option maxHeartbeats 1000000
set_option maxRecDepth 100000

theorem rgcd_any (x y : Int) (w : World) (hx : 0 ≤ x) (hx2 : x ≤ 1048576) (hy : 0 ≤ y) (hy2 : y ≤ 1048576) :
    Calls Tryz.prog 155 #[.int .i64 x, .int .i64 y] w fun r w' => r = .returned (.int .i64 (Int.gcd x y)) ∧ Below w.heap.size w w' := by
  go_enter Tryz.func155, Tryz.ntmps155
  go_wp2
  go_loopw [0, 1] (fun p q wr => ∃ a b : Int, p = .int .i64 a ∧ q = .int .i64 b ∧ 0 ≤ a ∧ a ≤ 1048576 ∧ 0 ≤ b ∧ b ≤ 1048576 ∧ Int.gcd a b = Int.gcd x y ∧ Below w.heap.size w wr) (fun _ q _ => (intOf q).toNat)
  case atStart => exact ⟨x, y, rfl, rfl, hx, hx2, hy, hy2, rfl, Below.refl _ _⟩
  case round =>
    obtain ⟨a, b, rfl, rfl, ha, ha2, hb, hb2, hg, hbr⟩ := hrel
    have HG := hid hg; clear hg
    by_cases hlt : 0 < b
    · have hm0 := Int.emod_nonneg a (by omega : b ≠ 0)
      have hm1 := Int.emod_lt_of_pos a hlt
      have hne : ¬ b = 0 := by omega
      have hwr : IntKind.i64.wrap (a.tmod b) = a % b := by rw [Int.tmod_eq_emod_of_nonneg ha]; exact IntWalk.i64_in _ (by omega)
      go_wp2_with fail
      refine wp_region_quiet_lit (by kernel_rfl) (by kernel_rfl) ?_
      repeat (first | fail | quiet_step (fail))
      refine wpQuiet_nil ?_
      intro w2 hb2
      replace hb2 := below_drewN hb2
      clear hwr
      go_wp2_with fail
      rw [Int.tmod_eq_emod_of_nonneg (b := b) ha]
      refine ⟨⟨b, a % b, rfl, rfl, by omega, by omega, by omega, by omega, ?_, bnext hbr hb2⟩, by simp [intOf]; omega⟩
      rw [← HG.out, gcd_step ha hb]
    · have : b = 0 := by omega
      subst this
      have hfin : a = Int.gcd x y := by
        rw [← HG.out, Int.gcd_zero]; omega
      have HF := hid hfin; clear hfin
      go_wp2_with fail
      go_ret
      exact ⟨by rw [← HF.out]; rfl, hbr⟩
end Go.Proofs.YtmomeggnegcheaaGreatDoor
