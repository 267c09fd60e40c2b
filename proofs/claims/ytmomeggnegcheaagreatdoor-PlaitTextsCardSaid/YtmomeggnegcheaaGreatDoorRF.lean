/- Conversions of lists between the program's types and the reference's, and the reference's comparisons of equal lists. Conditions: slices readable, sizes as stated. -/
import Derived.Test.YtmomeggnegcheaaGreatDoorLtA
set_option linter.all false
namespace Go.Proofs.YtmomeggnegcheaaGreatDoor
open Go.RowKit
set_option maxHeartbeats 1000000
set_option maxRecDepth 100000

section
variable {P : Program} {ops : Array Oper} {rest : List Oper} {a : Act} {Qa : Act → Prop} {α : Type} {c : α → Value} {sz bytes : Nat} {t e : TypeId} {z : Value} {ad : Option Addr} {cap : Nat} {l : List α} {k : Int} {w : World}
  {d1 d2 : Tmp} {ty1 ty2 : TypeId} {p1 p2 : String} {s x : Operand} {af1 af2 : Array Edge}
theorem wpQD_idxA (d : α) (E : ETy P t e z sz bytes) (hF : Aggr P e) (hc : ∀ x, c x = .agg (c x).cells)
   (hs : a.eval s = .slice ad l.length cap) (hx : a.eval x = .int .i64 k) (hR : Reps c sz w ad cap l) (h0 : 0 ≤ k) (hlt : k < l.length) (hd : ∀ p, (a.put (some d1) p).eval (.tmp d1) = p)
   (hK : ∀ p, wpQuiet P ops (fun w' => ∃ n, w' = w.drewN n) Qa rest ((a.put (some d1) p).put (some d2) (c (atD d l k)))) :
   wpQuiet P ops (fun w' => ∃ n, w' = w.drewN n) Qa (⟨some d1, .indexAddr t s x, ty1, p1, af1, none⟩ :: ⟨some d2, .load e (.tmp d1), ty2, p2, af2, none⟩ :: rest) a := by
  have hkl : k.toNat < l.length := by omega
  obtain ⟨b, o, rfl, hcs⟩ := hR.cells E.pos d k.toNat hkl
  obtain ⟨i, hi, _, hsz, _⟩ := info_parts E.inf
  refine wpQ_in (.pointer (some ((⟨b, o, none⟩ : Addr).add (k.toNat * sz)))) rfl (fun w' hw' => ?_) (wpQ_in (c (atD d l k)) rfl (fun w' hw' => ?_) (hK _))
  · have h1 := run_indexAt_sl (P := P) (a := ⟨b, o, none⟩) (cap := cap) w' E h0 hlt
    simp [execOp, hs, hx, h1, Result.andThen]
  · have hb := below_drewN hw'
    have h2 : (Instr.loadAt e (.pointer (some ((⟨b, o, none⟩ : Addr).add (k.toNat * sz))))).run P w' = .ok (c (atD d l k)) w' := by
      rw [run_loadAt_agg w' hF hi (cs := (c (atD d l k)).cells.toList) (by rw [hsz]; simpa using (hR.1 _).symm) ?_]
      · rw [Array.toArray_toList, ← hc]
      · intro j v hv
        rw [Addr.add_z, Addr.add_z]
        have hcell := hcs j v hv
        exact (hb.cell (World.block_lt_of_cell? w _ hcell)).trans hcell
    simp [execOp, hd, h2, Result.andThen]
end
theorem take_step {α : Type} (d : α) (l : List α) (k : Nat) (h : k < l.length) : l.take (k + 1) = l.take k ++ [atD d l k] := by
  rw [List.take_succ_eq_append_getElem h]; simp [atD, h]
theorem E_rmoves : ETy Tryz.prog 23 52 (.agg #[.int .i64 0, .int .i64 0]) 2 16 := ⟨Tryz.underlying23, by kernel_rfl, rfl, by decide⟩
theorem F_rmove : Aggr Tryz.prog 52 := ⟨_, Tryz.underlying52, rfl⟩
theorem E_rrefs : ETy Tryz.prog 108 166 (.agg #[.int .i64 0, .int .i64 0]) 2 16 := ⟨Tryz.underlying108, by kernel_rfl, rfl, by decide⟩
theorem F_rref : Aggr Tryz.prog 166 := ⟨_, Tryz.underlying166, rfl⟩
theorem moves_any (a : Option Addr) (cap : Nat) (l : List (Int × Int)) (w : World) (hS : Pairs w a cap l) (hl : l.length ≤ 1048576) :
    Calls Tryz.prog 12 #[.slice a l.length cap] w fun r w' => ∃ v, r = .returned v ∧ Own cPair 2 w.heap.size 55 w' v l ∧ Below w.heap.size w w' := by
  have hcap := hS.le
  have hm := hS.max
  go_enter Tryz.func12, Tryz.ntmps12
  go_wp2
  go_loopw [3, 5, 8] (fun v _ i wr => ∃ k : Nat, k ≤ l.length ∧ i = .int .i64 k ∧ Own cPair 2 w.heap.size 55 wr v (l.take k) ∧ Below w.heap.size w wr) (fun _ _ i _ => l.length - (intOf i).toNat)
  case atStart => exact ⟨0, by omega, rfl, own_nil cPairS, Below.refl _ _⟩
  case round =>
    obtain ⟨k, hk, rfl, hO, hbr⟩ := hrel
    have hSr := hS.below hbr
    have hbs := hbr.size
    have hle : (l.take k).length ≤ 1048576 := by simp; omega
    by_cases hlt : k < l.length
    · have hs := take_step (0, 0) l k hlt
      have HS := hid hs; clear hs
      go_wp2_with (first | (with_reducible refine wpList_idxS _ (0, 0) E_rmoves F_rmove cPair1 (by with_unfolding_all rfl) (by with_unfolding_all rfl) (hSr) (by first | omega | (simp; done)) (by first | omega | (simp; done)) (fun _ => by with_unfolding_all rfl) (fun _ => ?_)) | ((with_reducible refine wpList_app (l := (l.take k)) (ys := [(atD (0, 0) l k)]) E_moves (by with_unfolding_all rfl) (by with_unfolding_all rfl) (((hO.alloc _)).alloc _) (reps_new1 cPairS ((atD (0, 0) l k)) _ _ (by simp) rfl) cPairO (by simp; omega) (by first | omega | (simp; omega)) (by simp; omega) ?_); intro v3 w3 ho3 hg3 hat3))
      exact ⟨⟨k + 1, by omega, by go_num, by rw [HS.out]; exact ho3, below_own (bal (bal hbr _) _) hg3 ((hO.alloc _).alloc _) (Nat.le_refl _)⟩, by simp [intOf]; omega⟩
    · have : k = l.length := by omega
      subst this
      rw [List.take_length] at hO hle
      go_wp2_with fail
      go_ret
      exact ⟨_, rfl, hO, hbr⟩

theorem ownMoves_any (a : Option Addr) (cap : Nat) (l : List (Int × Int)) (w : World) (hS : Pairs w a cap l) (hl : l.length ≤ 1048576) :
    Calls Tryz.prog 35 #[.slice a l.length cap] w fun r w' => ∃ v, r = .returned v ∧ Own cPair 2 w.heap.size 52 w' v l ∧ Below w.heap.size w w' := by
  have hcap := hS.le
  have hm := hS.max
  go_enter Tryz.func35, Tryz.ntmps35
  go_wp2
  go_loopw [3, 5, 8] (fun v _ i wr => ∃ k : Nat, k ≤ l.length ∧ i = .int .i64 k ∧ Own cPair 2 w.heap.size 52 wr v (l.take k) ∧ Below w.heap.size w wr) (fun _ _ i _ => l.length - (intOf i).toNat)
  case atStart => exact ⟨0, by omega, rfl, own_nil cPairS, Below.refl _ _⟩
  case round =>
    obtain ⟨k, hk, rfl, hO, hbr⟩ := hrel
    have hSr := hS.below hbr
    have hbs := hbr.size
    have hle : (l.take k).length ≤ 1048576 := by simp; omega
    by_cases hlt : k < l.length
    · have hs := take_step (0, 0) l k hlt
      have HS := hid hs; clear hs
      go_wp2_with (first | (with_reducible refine wpList_idxS _ (0, 0) E_moves F_move cPair1 (by with_unfolding_all rfl) (by with_unfolding_all rfl) (hSr) (by first | omega | (simp; done)) (by first | omega | (simp; done)) (fun _ => by with_unfolding_all rfl) (fun _ => ?_)) | ((with_reducible refine wpList_app (l := (l.take k)) (ys := [(atD (0, 0) l k)]) E_rmoves (by with_unfolding_all rfl) (by with_unfolding_all rfl) (((hO.alloc _)).alloc _) (reps_new1 cPairS ((atD (0, 0) l k)) _ _ (by simp) rfl) cPairO (by simp; omega) (by first | omega | (simp; omega)) (by simp; omega) ?_); intro v3 w3 ho3 hg3 hat3))
      exact ⟨⟨k + 1, by omega, by go_num, by rw [HS.out]; exact ho3, below_own (bal (bal hbr _) _) hg3 ((hO.alloc _).alloc _) (Nat.le_refl _)⟩, by simp [intOf]; omega⟩
    · have : k = l.length := by omega
      subst this
      rw [List.take_length] at hO hle
      go_wp2_with fail
      go_ret
      exact ⟨_, rfl, hO, hbr⟩

theorem SameMoves_same (a a2 : Option Addr) (cap cap2 : Nat) (l : List (Int × Int)) (w : World) (hS : Pairs w a cap l) (hM : Pairs w a2 cap2 l) (hl : l.length ≤ 1048576) :
    Calls Tryz.prog 34 #[.slice a l.length cap, .slice a2 l.length cap2] w fun r w' => r = .returned (.bool true) ∧ Below w.heap.size w w' := by
  have hcap := hS.le
  have hm := hS.max
  have hcap2 := hM.le
  have hm2 := hM.max
  go_enter Tryz.func34, Tryz.ntmps34
  go_wp2_with fail
  go_loopw [5] (fun i wr => ∃ k : Nat, k ≤ l.length ∧ i = .int .i64 k ∧ Below w.heap.size w wr) (fun i _ => l.length - (intOf i).toNat)
  case atStart => exact ⟨0, by omega, rfl, Below.refl _ _⟩
  case round =>
    obtain ⟨k, hk, rfl, hbr⟩ := hrel
    by_cases hlt : k < l.length
    · have hS5 := hS.below hbr
      have hS6 := hM.below hbr
      go_wp2_with fail
      refine wp_region_quiet_lit (by kernel_rfl) (by kernel_rfl) ?_
      repeat (first | ((with_reducible refine wpQD_idxA (0, 0) E_rmoves F_rmove cPair1 (by with_unfolding_all rfl) (by with_unfolding_all rfl) (hS5) (by first | omega | (simp; done)) (by first | omega | (simp; done)) (fun _ => by with_unfolding_all rfl) (fun _ => ?_)); (try simp only [Act.put, List.setIfInBounds_toArray, List.set_cons_zero, List.set_cons_succ]); (try simp only [cPair, cPass])) | ((with_reducible refine wpQD_idxA (0, 0) E_rmoves F_rmove cPair1 (by with_unfolding_all rfl) (by with_unfolding_all rfl) (hS6) (by first | omega | (simp; done)) (by first | omega | (simp; done)) (fun _ => by with_unfolding_all rfl) (fun _ => ?_)); (try simp only [Act.put, List.setIfInBounds_toArray, List.set_cons_zero, List.set_cons_succ]); (try simp only [cPair, cPass])) | quiet_step (fail))
      refine wpQuiet_nil ?_
      intro w5 hb5
      replace hb5 := below_drewN hb5
      have b5 := bnext hbr hb5
      go_wp2_with fail
      exact ⟨⟨k + 1, by omega, by go_num, b5⟩, by simp [intOf]; omega⟩
    · have : k = l.length := by omega
      subst this
      go_wp2_with fail
      go_ret
      exact ⟨rfl, hbr⟩

end Go.Proofs.YtmomeggnegcheaaGreatDoor
