/- Contracts of the reference: Identity, Crosses, Alternates. Conditions: slices readable, letters fit, sizes as stated. -/
import Derived.Test.YtmomeggnegcheaaGreatDoorRE
import Derived.Test.YtmomeggnegcheaaGreatDoorRlB
import Derived.Test.YtmomeggnegcheaaGreatDoorSlA
import Derived.Test.YtmomeggnegcheaaGreatDoorRF
set_option linter.all false
namespace Go.Proofs.YtmomeggnegcheaaGreatDoor
open Go.RowKit
set_option maxHeartbeats 1000000
set_option maxRecDepth 100000

def idL (n : Nat) : List Int := (List.range n).map fun (i : Nat) => (i : Int)
theorem idL_succ (n : Nat) : idL (n + 1) = idL n ++ [(n : Int)] := by simp [idL, List.range_succ]
theorem idL_len (n : Nat) : (idL n).length = n := by simp [idL]
theorem idL_start (n : Nat) : idL (n + 1) = 0 :: startL n := by
  unfold idL startL
  rw [List.range_succ_eq_map]
  simp
theorem rIdentity_any (n : Nat) (w : World) (hn : n ≤ 100000) :
    Calls Tryz.prog 63 #[.int .i64 n] w fun r w' => ∃ v, r = .returned v ∧ OwnI w.heap.size w' v (idL n) ∧ Below w.heap.size w w' := by
  go_enter Tryz.func63, Tryz.ntmps63
  go_wp2
  go_loopw [3, 4] (fun v i wr => ∃ k : Nat, k ≤ n ∧ i = .int .i64 k ∧ OwnI w.heap.size wr v (idL k) ∧ Below w.heap.size w wr) (fun _ i _ => n - (intOf i).toNat)
  case atStart => exact ⟨0, by omega, rfl, own_nil cIntS, Below.refl _ _⟩
  case round =>
    obtain ⟨k, hk, rfl, hO, hbr⟩ := hrel
    have hle : (idL k).length ≤ 100000 := by rw [idL_len]; omega
    have hbs := hbr.size
    by_cases hlt : k < n
    · have hs := idL_succ k
      have HS := hid hs; clear hs
      go_wp2_with ((with_reducible refine wpList_app (l := (idL k)) (ys := [(k : Int)]) E_ints (by with_unfolding_all rfl) (by with_unfolding_all rfl) ((hO).alloc _) (reps_new1 cIntS ((k : Int)) _ _ (by simp) rfl) cIntO (by simp; omega) (by first | omega | (simp; omega)) (by simp; omega) ?_); intro v3 w3 ho3 hg3 hat3)
      exact ⟨⟨k + 1, by omega, by go_num, by rw [HS.out]; exact ho3, below_own (bal hbr (.cells #[.int .i64 (k : Int)] 3)) hg3 (hO.alloc _) (Nat.le_refl _)⟩, by simp [intOf]; omega⟩
    · have : k = n := by omega
      subst this
      go_wp2_with fail
      go_ret
      exact ⟨_, rfl, hO, hbr⟩

theorem cons_at {st : List Int} {x k : Int} (h : 1 ≤ k) : atD 0 (x :: st) k = atD 0 st (k - 1) := by
  have e : k.toNat = (k - 1).toNat + 1 := by omega
  show (x :: st).getD k.toNat 0 = st.getD (k - 1).toNat 0
  rw [e]; rfl
theorem cons_set {st : List Int} {x k v : Int} (h : 1 ≤ k) : (x :: st).set k.toNat v = x :: st.set (k - 1).toNat v := by
  have e : k.toNat = (k - 1).toNat + 1 := by omega
  rw [e]; rfl
end Go.Proofs.YtmomeggnegcheaaGreatDoor
