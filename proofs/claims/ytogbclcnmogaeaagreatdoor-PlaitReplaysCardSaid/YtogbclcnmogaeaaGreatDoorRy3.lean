/- Contracts of the reference: Undo, ShortMoves. Conditions: slices readable, sizes as stated. -/
import Derived.Test.YtogbclcnmogaeaaGreatDoorRy2
import Derived.Test.YtogbclcnmogaeaaGreatDoorRl3
set_option linter.all false
namespace Go.Proofs.YtogbclcnmogaeaaGreatDoor
open Go.RowKit
set_option maxHeartbeats 1000000
set_option maxRecDepth 100000

section
variable {P : Program} {ops : Array Oper} {Qa : Act → Prop} {w : World} {rest : List Oper} {a : Act} {ty : TypeId} {p : String} {af : Array Edge} {g : Option (Nat × Bool)} {d : Tmp}
theorem wpB_cell {e : TypeId} {s : Operand} {x : Addr} {v : Value} (hF : Flat P e) (hg : Region.wanted (⟨some d, .load e s, ty, p, af, g⟩ : Oper) (yielded ops a.tmps) = true) (hs : a.eval s = .pointer (some x))
    (hb : w.cell? x = some v) (h : wpQuiet P ops (Below w.heap.size w) Qa rest (a.put (some d) v)) : wpQuiet P ops (Below w.heap.size w) Qa (⟨some d, .load e s, ty, p, af, g⟩ :: rest) a := by
  refine wpQ_inG v hg (fun w' hw' => ?_) h
  have hc : w'.cell? x = some v := (hw'.cell (World.block_lt_of_cell? w _ hb)).trans hb
  simp [execOp, hs, run_loadAt_cell w' hF hc, Result.andThen]
end

def shortM (n : Nat) : Bool := decide (n ≤ 40) || (decide (1000 < n) && decide (n ≤ 1002))
theorem shortMoves_any (a : Option Addr) (cap n : Nat) (w : World) (hn : n ≤ 9223372036854775807) :
    Calls Tryz.prog 32 #[.slice a n cap] w fun r w' => r = .returned (.bool (shortM n)) ∧ w = w' := by
  by_cases h1 : n ≤ 40
  · have e : shortM n = true := by simp [shortM, h1]
    rw [e]
    go_enter Tryz.func32, Tryz.ntmps32
    go_wp2
    go_ret
    exact ⟨rfl, rfl⟩
  by_cases h2 : 1000 < n
  · by_cases h3 : n ≤ 1002
    · have e : shortM n = true := by simp [shortM, h2, h3]
      rw [e]
      go_enter Tryz.func32, Tryz.ntmps32
      go_wp2
      go_ret
      exact ⟨by simp; omega, rfl⟩
    · have e : shortM n = false := by simp [shortM, h1, h3]
      rw [e]
      go_enter Tryz.func32, Tryz.ntmps32
      go_wp2
      go_ret
      exact ⟨by simp; omega, rfl⟩
  · have e : shortM n = false := by simp [shortM, h1, h2]
    rw [e]
    go_enter Tryz.func32, Tryz.ntmps32
    go_wp2
    go_ret
    exact ⟨by simp; omega, rfl⟩

theorem rUndo_any (a : Option Addr) (cap : Nat) (l : List (Int × Int)) (w : World) (hS : Pairs w a cap l) (hl : l.length ≤ 1048576) :
    Calls Tryz.prog 86 #[.slice a l.length cap] w fun r w' => ∃ v, r = .returned v ∧ Own cPair 2 w.heap.size 24 w' v (undoL l) ∧ Below w.heap.size w w' := by
  have hcap := hS.le
  have hm := hS.max
  go_enter Tryz.func86, Tryz.ntmps86
  go_wp2_with fail
  go_loopw [3, 4] (fun v i wr => ∃ k : Nat, k ≤ l.length ∧ i = .int .i64 ((l.length : Int) - 1 - k) ∧ Own cPair 2 w.heap.size 24 wr v ((undoL l).take k) ∧ Below w.heap.size w wr) (fun _ i _ => (intOf i + 1).toNat)
  case atStart => exact ⟨0, by omega, by simp, own_nil cPairS, Below.refl _ _⟩
  case round =>
    obtain ⟨k, hk, rfl, hO, hbr⟩ := hrel
    have hSr := hS.below hbr
    have hbs := hbr.size
    have hle : ((undoL l).take k).length ≤ 1048576 := by simp; omega
    by_cases hlt : k < l.length
    · have hs := take_step (0, 0) (undoL l) k (by rw [undoL_len]; exact hlt)
      rw [undoL_at hlt rfl] at hs
      obtain ⟨o, ho⟩ : ∃ o, o = (undoL l).take k := ⟨_, rfl⟩
      rw [← ho] at hs hO hle
      have HS := hid hs; clear hs ho
      obtain ⟨j, hj⟩ : ∃ j, j = l.length - 1 - k := ⟨_, rfl⟩
      have hji : (l.length : Int) - 1 - k = j := by omega
      have hjl : j < l.length := by omega
      rw [hji] at HS ⊢
      obtain ⟨b', o', rfl, hcs⟩ := hS.cells (by decide) (0, 0) j hjl
      have k0 := hcs 0 (.int .i64 (atD (0, 0) l j).1) rfl
      have k1 := hcs 1 (.int .i64 (atD (0, 0) l j).2) rfl
      obtain ⟨f, hf⟩ : ∃ f, f = (atD (0, 0) l j).1 := ⟨_, rfl⟩
      obtain ⟨t, ht⟩ : ∃ t, t = (atD (0, 0) l j).2 := ⟨_, rfl⟩
      rw [← hf] at k0
      rw [← ht] at k1
      simp at k0 k1
      have HF := hid hf; have HT := hid ht; have HJ := hid hji
      clear hf ht hcs hj hji
      go_wp2_with fail
      refine wp_regionK (C := Below (w).heap.size (w)) [0, 1, 2, 3, 4, 5, 6, 7, 8, 9, 10, 11] [_, _, _, _, _, _, _, _, _, _, _, _] 3 (by simp only [List.map_cons, List.map_nil, List.getElem?_toArray]; rfl) rfl (by kernel_rfl) (by kernel_rfl) (by kernel_rfl) (hbr.drew) ?_
      refine ⟨_, yieldsK_val (by with_unfolding_all rfl) (fun w' => by with_unfolding_all exact rfl), ?_⟩
      go_frame
      refine ⟨_, yieldsK_val (by with_unfolding_all rfl) (fun w' => by with_unfolding_all exact rfl), ?_⟩
      go_frame
      refine ⟨_, yieldsK_val (by with_unfolding_all rfl) (fun w' => by with_unfolding_all exact rfl), ?_⟩
      go_frame
      refine ⟨_, yieldsK_idx (k := (j : Int)) E_rmoves (by omega) (by first | omega | (simp; omega)) (by with_unfolding_all rfl) (by with_unfolding_all rfl) (by with_unfolding_all rfl), ?_⟩
      go_frame
      refine ⟨_, yieldsK_val (by with_unfolding_all rfl) (fun w' => by with_unfolding_all exact rfl), ?_⟩
      go_frame
      refine ⟨_, yieldsK_cell F_int (k1) (by with_unfolding_all rfl) (by with_unfolding_all rfl), ?_⟩
      go_frame
      refine ⟨_, yieldsK_val (by with_unfolding_all rfl) (fun w' => by with_unfolding_all exact rfl), ?_⟩
      go_frame
      refine ⟨_, yieldsK_val (by with_unfolding_all rfl) (fun w' => by with_unfolding_all exact rfl), ?_⟩
      go_frame
      refine ⟨_, yieldsK_idx (k := (j : Int)) E_rmoves (by omega) (by first | omega | (simp; omega)) (by with_unfolding_all rfl) (by with_unfolding_all rfl) (by with_unfolding_all rfl), ?_⟩
      go_frame
      refine ⟨_, yieldsK_val (by with_unfolding_all rfl) (fun w' => by with_unfolding_all exact rfl), ?_⟩
      go_frame
      refine ⟨_, yieldsK_cell F_int (k0) (by with_unfolding_all rfl) (by with_unfolding_all rfl), ?_⟩
      go_frame
      refine ⟨_, yieldsK_val (by with_unfolding_all rfl) (fun w' => by with_unfolding_all exact rfl), ?_⟩
      go_frame
      unfold wpPureK
      have hVd : ({ wr with drawn := wr.drawn + 1 } : World) = wr.drew := rfl
      rw [hVd]
      have hO2 := hO.drew
      have b2 := hbr.drew
      refine wpAnyC_on [12] (by kernel_rfl) (by simp) ?_
      simp only [List.forall_mem_cons, List.not_mem_nil, false_implies, implies_true, and_true]
      refine wpOp_value (v := .slice (some ⟨wr.drew.heap.size, 0, none⟩) 1 1) (w' := wr.drew.alloc (.cells #[.int .i64 t, .int .i64 f] 24)) (by rw [List.getElem?_toArray]; rfl) (by with_unfolding_all rfl) (by first | (go_simp; done) | (go_simp; rfl) | (simp [execOp, Act.eval, Result.andThen]; done)) ?_
      refine ⟨bal b2 _, ?_⟩
      go_frame
      refine wpAnyC_on [13] (by kernel_rfl) (by simp) ?_
      simp only [List.forall_mem_cons, List.not_mem_nil, false_implies, implies_true, and_true]
      refine wpOp_of_list (by rw [List.getElem?_toArray]; rfl) ?_
      ((with_reducible refine wpList_app (l := o) (ys := [(t, f)]) E_rmoves (by with_unfolding_all rfl) (by with_unfolding_all rfl) ((hO2).alloc _) (reps_new1 cPairS ((t, f)) _ _ (by simp) rfl) cPairO (by simp; omega) (by first | omega | (simp; omega)) (by simp; omega) ?_); intro v3 w3 ho3 hg3 hat3)
      have b3 := below_own (bal b2 (.cells #[.int .i64 t, .int .i64 f] 24)) hg3 (hO2.alloc _) (Nat.le_refl _)
      refine ⟨b3, ?_⟩
      go_frame
      refine wpAnyC_rest [14] [_] rfl (by simp only [List.map_cons, List.map_nil, List.getElem?_toArray]; rfl) (by kernel_rfl) (by kernel_rfl) (by kernel_rfl) (b3) ?_
      repeat (refine ⟨_, .inl ⟨by with_unfolding_all rfl, fun w' _ => by with_unfolding_all exact rfl⟩, ?_⟩; go_frame)
      unfold wpPure
      refine of_wpList_nil (P := Tryz.prog) (ops := #[]) ?_
      go_wp2_with fail
      have e : (undoL l).take (k + 1) = o ++ [(t, f)] := by rw [HS.out, ← HF.out, ← HT.out]
      have hji := HJ.out
      refine ⟨⟨k + 1, by omega, ?_, by rw [e]; exact ho3, b3⟩, by simp [intOf]⟩
      congr 1
      omega
    · have : k = l.length := by omega
      subst this
      rw [List.take_of_length_le (by rw [undoL_len]; exact Nat.le_refl _)] at hO
      clear hle
      go_wp2_with fail
      go_ret
      exact ⟨_, rfl, hO, hbr⟩
end Go.Proofs.YtogbclcnmogaeaaGreatDoor
