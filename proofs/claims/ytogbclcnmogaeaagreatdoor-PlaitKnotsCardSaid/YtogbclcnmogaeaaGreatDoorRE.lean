/- Contracts of the references: size, run, letter, CheckWord, ShortWord. Conditions: numbers and sizes as stated. -/
import Derived.Test.YtogbclcnmogaeaaGreatDoorRA
import Derived.Test.YtogbclcnmogaeaaGreatDoorPs1
set_option linter.all false
namespace Go.Proofs.YtogbclcnmogaeaaGreatDoor
open Go.RowKit
set_option maxHeartbeats 1000000
set_option maxRecDepth 100000

theorem shortWord_any (a : Option Addr) (cap n : Nat) (w : World) :
    Calls Tryz.prog 42 #[.slice a n cap] w fun r w' => r = .returned (.bool (decide (n ≤ 202))) ∧ w = w' := by
  go_enter Tryz.func42, Tryz.ntmps42
  go_wp2
  go_ret
  exact ⟨by simp; omega, rfl⟩
theorem rsize_any (n : Int) (w : World) (h : -9223372036854775807 ≤ n) (h2 : n ≤ 9223372036854775807) :
    Calls Tryz.prog 119 #[.int .i64 n] w fun r w' => r = .returned (.int .i64 (absI n)) ∧ w = w' := by
  have m1 : max n (-n) = absI n := by unfold absI; split <;> omega
  go_enter Tryz.func119, Tryz.ntmps119
  go_wp2
  go_ret
  exact ⟨rfl, rfl⟩
theorem rRun_any (b : Int) (a : Option Addr) (cap : Nat) (l : List Int) (w : World) (hS : Ints w a cap l) (hb : b = 1 ∨ b = -1) (h0 : 0 < l.length) (hsm : l.length ≤ 1048576) (hL : ∀ k : Nat, k < l.length → -1000 ≤ atD 0 l k ∧ atD 0 l k ≤ 1000) :
    Calls Tryz.prog 118 #[.slice a l.length cap, .int .i64 b] w fun r w' => r = .returned (.int .i64 (runN l b)) ∧ Below w.heap.size w w' := by
  have hcap := hS.le
  have hm := hS.max
  go_enter Tryz.func118, Tryz.ntmps118
  go_wp2
  go_loopw [5] (fun i wr => ∃ k f : Nat, 1 ≤ k ∧ k ≤ l.length ∧ l.length ≤ k + f ∧ i = .int .i64 k ∧ runGo l b k f = runN l b ∧ Below w.heap.size w wr) (fun i _ => l.length - (intOf i).toNat)
  case atStart => exact ⟨1, l.length, by omega, by omega, by omega, rfl, rfl, Below.refl _ _⟩
  case round =>
    obtain ⟨k, f, hk1, hk, hf, rfl, hr, hbr⟩ := hrel
    have HR := hid hr; clear hr
    have hSr := hS.below hbr
    have hl0 := hL 0 h0
    by_cases hlt : k < l.length
    · have hlk := hL k hlt
      have hd : decide (k < l.length) = true := by simpa using hlt
      have c1 : ∀ w' : World, Calls Tryz.prog 119 #[.int .i64 (atD 0 l k)] w' fun r w'' => r = .returned (.int .i64 (absI (atD 0 l k))) ∧ w' = w'' := fun w' => rsize_any _ w' (by omega) (by omega)
      have c2 : ∀ w' : World, Calls Tryz.prog 119 #[.int .i64 (atD 0 l 0)] w' fun r w'' => r = .returned (.int .i64 (absI (atD 0 l 0))) ∧ w' = w'' := fun w' => rsize_any _ w' (by simp at hl0; omega) (by simp at hl0; omega)
      have C1 := hid c1; clear c1
      have C2 := hid c2; clear c2
      go_wp2_with fail
      refine wp_region_quiet_lit (by kernel_rfl) (by kernel_rfl) ?_
      repeat (first | ((with_reducible refine wpQD_idxG 0 E_ints F_int cInt1 (by with_unfolding_all rfl) (by with_unfolding_all rfl) (hSr) (rfl) (by first | omega | (simp; done)) (by first | omega | (simp; done)) (fun _ => by with_unfolding_all rfl) (by with_unfolding_all rfl) (fun _ => by with_unfolding_all rfl) (fun _ => ?_)); (try simp only [Act.put, List.setIfInBounds_toArray, List.set_cons_zero, List.set_cons_succ]); (try simp only [cInt])) | quiet_step (first | exact quiet_same (C1.out _) | exact quiet_same (C2.out _)))
      refine wpQuiet_nil ?_
      intro w2 hb2
      replace hb2 := below_drewN hb2
      have hbk : -1048576 ≤ b * (k : Int) ∧ b * (k : Int) ≤ 1048576 := by
        rcases hb with rfl | rfl
        · omega
        · omega
      have ha0 : 0 ≤ absI (atD 0 l 0) ∧ absI (atD 0 l 0) ≤ 1000 := by simp at hl0; unfold absI; split <;> omega
      have hw1 : IntKind.i64.wrap (b * (k : Int)) = b * k := IntWalk.i64_in _ (by omega)
      have hw2 : IntKind.i64.wrap (absI (atD 0 l 0) + b * (k : Int)) = absI (atD 0 l 0) + b * k := IntWalk.i64_in _ (by omega)
      have HW1 := hid hw1; clear hw1
      have HW2 := hid hw2; clear hw2
      have HBK := hid hbk; clear hbk
      obtain ⟨g, rfl⟩ : ∃ g, f = g + 1 := ⟨f - 1, by omega⟩
      go_wp2_with fail
      · have hq : (absI (atD 0 l k) == IntKind.i64.wrap (absI (atD 0 l 0) + IntKind.i64.wrap (b * (k : Int)))) = true := by assumption
        rw [HW1.out, HW2.out] at hq
        have hr := HR.out
        rw [runGo, if_pos ⟨hlt, by simpa using hq⟩] at hr
        exact ⟨⟨k + 1, g, by omega, by omega, by omega, by go_num, hr, bnext hbr hb2⟩, by simp [intOf]; omega⟩
      · have hq : (absI (atD 0 l k) == IntKind.i64.wrap (absI (atD 0 l 0) + IntKind.i64.wrap (b * (k : Int)))) = false := by assumption
        rw [HW1.out, HW2.out] at hq
        have hr := HR.out
        rw [runGo, if_neg (fun h => by simp [h.2] at hq)] at hr
        go_ret
        exact ⟨by rw [← hr]; rfl, bnext hbr hb2⟩
    · have hd : decide (k < l.length) = false := by simpa using hlt
      have hr := HR.out
      have hr2 : k = runN l b := by
        rw [← hr]
        cases f with
        | zero => rfl
        | succ f => rw [runGo, if_neg (fun h => hlt h.1)]
      have HR2 := hid hr2; clear hr2 hr
      go_wp2_with fail
      refine wp_region_quiet_lit (by kernel_rfl) (by kernel_rfl) ?_
      repeat (first | ((with_reducible refine wpQ_skip (by with_unfolding_all rfl) ?_); (try simp only [Act.put, List.setIfInBounds_toArray, List.set_cons_zero, List.set_cons_succ])) | quiet_step (fail))
      refine wpQuiet_nil ?_
      intro w2 hb2
      replace hb2 := below_drewN hb2
      go_wp2_with fail
      go_ret
      exact ⟨by rw [← HR2.out]; rfl, bnext hbr hb2⟩

theorem rletter_any (n x : Int) (w : World) (h1 : 1 ≤ n) (h2 : n ≤ 12) :
    Calls Tryz.prog 117 #[.int .i64 n, .int .i64 x] w fun r w' => r = .returned (.bool (!outB n x)) ∧ w = w' := by
  by_cases c0 : x = 0
  · have e : (!outB n x) = false := by simp [outB, c0]
    rw [e]
    clear e
    subst c0
    go_enter Tryz.func117, Tryz.ntmps117
    go_wp2
    go_ret
    exact ⟨rfl, rfl⟩
  by_cases c1 : 0 - n < x
  · have e : (!outB n x) = decide (x < n) := by
      have a1 : (x == 0) = false := by simpa using c0
      have a2 : decide (x ≤ -n) = false := by simp; omega
      by_cases c2 : x < n
      · have a3 : decide (n ≤ x) = false := by simp; omega
        simp [outB, a1, a2, a3, c2]
      · have a3 : decide (n ≤ x) = true := by simp; omega
        simp [outB, a1, a2, a3, c2]
    rw [e]
    clear e
    have hx : (x != 0) = true := by simpa using c0
    go_enter Tryz.func117, Tryz.ntmps117
    go_wp2
    go_ret
    exact ⟨rfl, rfl⟩
  · have e : (!outB n x) = false := by
      have a2 : decide (x ≤ -n) = true := by simp; omega
      simp [outB, a2]
    rw [e]
    clear e
    have hx : (x != 0) = true := by simpa using c0
    go_enter Tryz.func117, Tryz.ntmps117
    go_wp2
    go_ret
    exact ⟨rfl, rfl⟩

theorem wordE_any {n : Int} {l : List Int} (h : strandsE n = 0) (h2 : l.length ≤ 200) : wordE n l = if l.any (outB n) then 3 else 0 := by
  unfold wordE
  rw [if_neg (fun hh => hh h), if_neg (by omega)]
  have key : (0 ≤ idxGo n l 0 l.length) ↔ l.any (outB n) = true := by
    rw [idxGo_neg, List.any_eq_true]
    constructor
    · rintro ⟨j, _, hj, ho⟩
      exact ⟨atD 0 l j, by simp [atD, show j < l.length by omega], ho⟩
    · rintro ⟨x, hx, ho⟩
      obtain ⟨j, hj, rfl⟩ := List.getElem_of_mem hx
      exact ⟨j, by omega, by omega, by simpa [atD, hj] using ho⟩
  by_cases c : l.any (outB n) = true
  · rw [if_pos (key.2 c), if_pos c]
  · rw [if_neg (fun h => c (key.1 h)), if_neg c]
theorem rCheckWord_any (n : Int) (a : Option Addr) (cap : Nat) (l : List Int) (w : World) (hS : Ints w a cap l) :
    Calls Tryz.prog 46 #[.int .i64 n, .slice a l.length cap] w fun r w' => r = .returned (.int .i64 (wordE n l)) ∧ Below w.heap.size w w' := by
  have hcap := hS.le
  have hm := hS.max
  by_cases h1 : n < 1
  · have e : wordE n l = 3 := by simp [wordE, strandsE, h1]
    rw [e]
    clear e
    go_enter Tryz.func46, Tryz.ntmps46
    go_wp2
    go_ret
    exact ⟨rfl, Below.refl _ _⟩
  by_cases h2 : 12 < n
  · have e : wordE n l = 3 := by simp [wordE, strandsE, h2]
    rw [e]
    clear e
    go_enter Tryz.func46, Tryz.ntmps46
    go_wp2
    go_ret
    exact ⟨rfl, Below.refl _ _⟩
  have hs0 : strandsE n = 0 := by unfold strandsE; rw [if_neg (by omega)]
  by_cases h3 : 200 < l.length
  · have e : wordE n l = 5 := by unfold wordE; rw [hs0]; simp [h3]
    rw [e]
    clear e
    go_enter Tryz.func46, Tryz.ntmps46
    go_wp2
    go_ret
    exact ⟨rfl, Below.refl _ _⟩
  have hE : wordE n l = if l.any (outB n) then 3 else 0 := wordE_any hs0 (by omega)
  obtain ⟨m, hm2⟩ : ∃ m, m = wordE n l := ⟨_, rfl⟩
  rw [← hm2] at hE ⊢
  have HE := hid hE; clear hE hm2
  go_enter Tryz.func46, Tryz.ntmps46
  go_wp2
  go_loopw [5] (fun i wr => ∃ k : Nat, k ≤ l.length ∧ i = .int .i64 k ∧ (l.take k).any (outB n) = false ∧ Below w.heap.size w wr) (fun i _ => l.length - (intOf i).toNat)
  case atStart => exact ⟨0, by omega, rfl, rfl, Below.refl _ _⟩
  case round =>
    obtain ⟨k, hk, rfl, hno, hbr⟩ := hrel
    have hR := hS.below hbr
    by_cases hlt : k < l.length
    · have ht : l.take (k + 1) = l.take k ++ [atD 0 l k] := by rw [List.take_succ_eq_append_getElem hlt]; simp [atD, hlt]
      have HT := hid ht; clear ht
      have HNO := hid hno; clear hno
      cases ho : outB n (atD 0 l k)
      · have e : (!outB n (atD 0 l k)) = true := by rw [ho]; rfl
        have hno2 : (l.take (k + 1)).any (outB n) = false := by rw [HT.out, List.any_append, HNO.out]; simp [ho]
        have HE2 := hid e; have HN2 := hid hno2; clear e hno2 ho
        go_wp2_with (first | (with_reducible refine wpList_idx _ 0 E_ints F_int cInt1 (by with_unfolding_all rfl) (by with_unfolding_all rfl) (hR) (by first | omega | (simp; done)) (by first | omega | (simp; done)) (fun _ => by with_unfolding_all rfl) (fun _ => ?_)) | (go_at_call 117; refine (rletter_any _ _ _ (by omega) (by omega)).mono ?_; rw [HE2.out]; rintro e w' ⟨rfl, rfl⟩))
        go_roundw
        case rel => exact ⟨k + 1, by omega, by go_num, HN2.out, hbr⟩
        case measure => simp [intOf]; omega
      · have e : (!outB n (atD 0 l k)) = false := by rw [ho]; rfl
        have hm3 : m = 3 := by
          rw [HE.out, if_pos]
          rw [List.any_eq_true]
          exact ⟨atD 0 l k, by simp [atD, hlt], ho⟩
        have HE2 := hid e; have HM := hid hm3; clear e hm3 ho
        go_wp2_with (first | (with_reducible refine wpList_idx _ 0 E_ints F_int cInt1 (by with_unfolding_all rfl) (by with_unfolding_all rfl) (hR) (by first | omega | (simp; done)) (by first | omega | (simp; done)) (fun _ => by with_unfolding_all rfl) (fun _ => ?_)) | (go_at_call 117; refine (rletter_any _ _ _ (by omega) (by omega)).mono ?_; rw [HE2.out]; rintro e w' ⟨rfl, rfl⟩))
        go_ret
        exact ⟨by rw [HM.out]; rfl, hbr⟩
    · have : k = l.length := by omega
      subst this
      rw [List.take_length] at hno
      have hm3 : m = 0 := by rw [HE.out, hno]; rfl
      have HM := hid hm3; clear hm3 hno
      go_wp2_with fail
      go_ret
      exact ⟨by rw [HM.out]; rfl, hbr⟩
end Go.Proofs.YtogbclcnmogaeaaGreatDoor
