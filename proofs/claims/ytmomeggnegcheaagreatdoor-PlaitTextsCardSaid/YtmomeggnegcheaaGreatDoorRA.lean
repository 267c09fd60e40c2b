/- Contracts of the reference: between, CheckStand, Legal, Next, ShortStand, CheckMoves. Conditions: slices readable, numbers fit an int, sizes as stated. Contract of the reference: CheckStand. Conditions: the slice can be read, its numbers fit an int. Contracts of the reference: Legal. Conditions: the slice can be read, the move's numbers fit an int. Contract of the reference: Next. Conditions: the slice can be read, the move lies in it. -/
import Derived.Test.YtmomeggnegcheaaGreatDoorSlA
import Derived.Test.YtmomeggnegcheaaGreatDoorPlB
import Derived.Test.YtmomeggnegcheaaGreatDoorQA
set_option linter.all false
/- Contracts of the reference: between, CheckStand, Legal, Next, ShortStand, CheckMoves. Conditions: slices readable, numbers fit an int, sizes as stated. -/
namespace Go.Proofs.YtmomeggnegcheaaGreatDoor
open Go.RowKit
set_option maxHeartbeats 400000
set_option maxRecDepth 100000

def btw (n low high : Int) : Bool := decide (low ≤ n) && decide (n ≤ high)
theorem btw_true {n low high : Int} : btw n low high = true ↔ low ≤ n ∧ n ≤ high := by simp [btw]
theorem rbetween_any (n low high : Int) (w : World) :
    Calls Tryz.prog 60 #[.int .i64 n, .int .i64 low, .int .i64 high] w fun r w' => r = .returned (.bool (btw n low high)) ∧ w = w' := by
  by_cases h0 : n < low
  · have hd : decide (low ≤ n) = false := by simp; omega
    have hs : btw n low high = false := by simp [btw, hd]
    have HS := hid hs; clear hs
    go_enter Tryz.func60, Tryz.ntmps60
    go_wp2
    go_ret
    exact ⟨by rw [HS.out]; rfl, rfl⟩
  · have hd : decide (low ≤ n) = true := by simp; omega
    have hs : btw n low high = decide (n ≤ high) := by simp [btw, hd]
    have HS := hid hs; clear hs
    go_enter Tryz.func60, Tryz.ntmps60
    go_wp2
    go_ret
    exact ⟨by rw [HS.out]; rfl, rfl⟩

theorem shortStand_any (a : Option Addr) (cap n : Nat) (w : World) :
    Calls Tryz.prog 7 #[.slice a n cap] w fun r w' => r = .returned (.bool (decide (n ≤ 66))) ∧ w = w' := by
  go_enter Tryz.func7, Tryz.ntmps7
  go_wp2
  go_ret
  exact ⟨by simp; omega, rfl⟩

theorem rCheckMoves_any (a : Option Addr) (cap n : Nat) (w : World) :
    Calls Tryz.prog 17 #[.slice a n cap] w fun r w' => r = .returned (.int .i64 (manyE n)) ∧ w = w' := by
  by_cases h : 1000 < n
  · have hs : manyE n = 5 := by simp [manyE, h]
    rw [hs]
    go_enter Tryz.func17, Tryz.ntmps17
    go_wp2
    go_ret
    exact ⟨rfl, rfl⟩
  · have hs : manyE n = 0 := by simp [manyE, h]
    rw [hs]
    go_enter Tryz.func17, Tryz.ntmps17
    go_wp2
    go_ret
    exact ⟨rfl, rfl⟩
end Go.Proofs.YtmomeggnegcheaaGreatDoor

/- Contract of the reference: CheckStand. Conditions: the slice can be read, its numbers fit an int. -/
namespace Go.Proofs.YtmomeggnegcheaaGreatDoor
open Go.RowKit
set_option maxHeartbeats 1000000
set_option maxRecDepth 100000

theorem mem_take_iff {l : List Int} {k : Nat} {x : Int} (hk : k ≤ l.length) : x ∈ l.take k ↔ ∃ j, j < k ∧ atD 0 l (j : Nat) = x := by
  constructor
  · intro h
    obtain ⟨j, hj, e⟩ := List.mem_iff_getElem.1 h
    have hj2 : j < k := by simp at hj; omega
    exact ⟨j, hj2, by rw [← e]; simp [atD, show j < l.length by omega]⟩
  · rintro ⟨j, hj, rfl⟩
    refine List.mem_iff_getElem.2 ⟨j, by simp; omega, ?_⟩
    simp [atD, show j < l.length by omega]

theorem rCheckStand_any (a : Option Addr) (cap : Nat) (l : List Int) (w : World) (hS : Ints w a cap l) :
    Calls Tryz.prog 16 #[.slice a l.length cap] w fun r w' => r = .returned (.int .i64 (checkStand l)) ∧ Below w.heap.size w w' := by
  have hcap := hS.le
  have hm := hS.max
  by_cases h4 : l.length < 4
  · have hs : checkStand l = 2 := by simp [checkStand, h4]
    rw [hs]
    clear hs
    go_enter Tryz.func16, Tryz.ntmps16
    go_wp2
    go_ret
    exact ⟨rfl, Below.refl _ _⟩
  by_cases h64 : 64 < l.length
  · have hs : checkStand l = 5 := by simp [checkStand, h4, h64]
    rw [hs]
    clear hs
    go_enter Tryz.func16, Tryz.ntmps16
    go_wp2
    go_ret
    exact ⟨rfl, Below.refl _ _⟩
  have hs : checkStand l = standGo [] l := by simp [checkStand, h4, h64]
  have HS := hid hs; clear hs
  go_enter Tryz.func16, Tryz.ntmps16
  go_wp2
  go_loopw [3, 4] (fun i _ wr => ∃ k : Nat, k ≤ l.length ∧ i = .int .i64 k ∧ Below w.heap.size w wr ∧ standGo (l.take k) (l.drop k) = checkStand l) (fun i _ _ => l.length - (intOf i).toNat)
  case atStart => exact ⟨0, by omega, rfl, Below.refl _ _, by simp [HS.out]⟩
  case round =>
    obtain ⟨k, hk, rfl, hb, hgo⟩ := hrel
    have hR := hS.below hb
    by_cases hlt : k < l.length
    · have hstep := standGo_step l k hlt
      rw [hgo] at hstep
      have HG := hid hgo; clear hgo
      have HT := hid hstep; clear hstep
      cases hbt : btw (atD 0 l k) 0 64
      · have HB := hid hbt; clear hbt
        go_wp2_with (first | (with_reducible refine wpList_idx _ 0 E_ints F_int cInt1 (by with_unfolding_all rfl) (by with_unfolding_all rfl) (hR) (by first | omega | (simp; done)) (by first | omega | (simp; done)) (fun _ => by with_unfolding_all rfl) (fun _ => ?_)) | (go_at_call 60; refine (rbetween_any _ _ _ _).mono ?_; rw [HB.out]; rintro e w' ⟨rfl, rfl⟩))
        go_ret
        exact ⟨by rw [HT.out, if_pos (by have := HB.out; simp [btw] at this; omega)]; rfl, hb⟩
      · have HB := hid hbt; clear hbt
        go_wp2_with (first | (with_reducible refine wpList_idx _ 0 E_ints F_int cInt1 (by with_unfolding_all rfl) (by with_unfolding_all rfl) (hR) (by first | omega | (simp; done)) (by first | omega | (simp; done)) (fun _ => by with_unfolding_all rfl) (fun _ => ?_)) | (go_at_call 60; refine (rbetween_any _ _ _ _).mono ?_; rw [HB.out]; rintro e w' ⟨rfl, rfl⟩))
        have hb64 : 0 ≤ atD 0 l k ∧ atD 0 l k ≤ 64 := btw_true.1 HB.out
        go_loopw [4] (fun i wq => ∃ j : Nat, j ≤ k ∧ i = .int .i64 j ∧ Below w.heap.size w wq ∧ ∀ m : Nat, m < j → ¬ (atD 0 l k ≠ 0 ∧ atD 0 l (m : Nat) = atD 0 l k)) (fun i _ => k - (intOf i).toNat)
        case atStart => exact ⟨0, by omega, rfl, hb, fun m hm => by omega⟩
        case round =>
          obtain ⟨j, hj, rfl, hb2, hno⟩ := hrel
          have hR2 := hS.below hb2
          have HNO := hid hno; clear hno
          by_cases hjk : j < k
          · have hjl : j < l.length := by omega
            cases hx : (atD 0 l k != 0)
            · go_wp2_with fail
              refine wp_region_quiet_lit (by kernel_rfl) (by kernel_rfl) ?_
              repeat (first | ((with_reducible refine wpQD_idx 0 E_ints F_int cInt1 (by with_unfolding_all rfl) (by with_unfolding_all rfl) (hR2) (by first | omega | (simp; done)) (by first | omega | (simp; done)) (fun _ => by with_unfolding_all rfl) (fun _ => ?_)); (try simp only [Act.put, List.setIfInBounds_toArray, List.set_cons_zero, List.set_cons_succ]); (try simp only [cInt])) | ((with_reducible refine wpQ_skip (by with_unfolding_all rfl) ?_); (try simp only [Act.put, List.setIfInBounds_toArray, List.set_cons_zero, List.set_cons_succ])) | quiet_step (fail))
              refine wpQuiet_nil ?_
              intro w2 hb3
              replace hb3 := below_drewN hb3
              go_wp2_with fail
              go_roundw
              case rel => exact ⟨j + 1, by omega, by simp, bnext hb2 hb3, fun m hm h => by simp at hx; exact h.1 hx⟩
              case measure => simp [intOf]; omega
            · cases hy : (atD 0 l j == atD 0 l k)
              · go_wp2_with fail
                refine wp_region_quiet_lit (by kernel_rfl) (by kernel_rfl) ?_
                repeat (first | ((with_reducible refine wpQD_idx 0 E_ints F_int cInt1 (by with_unfolding_all rfl) (by with_unfolding_all rfl) (hR2) (by first | omega | (simp; done)) (by first | omega | (simp; done)) (fun _ => by with_unfolding_all rfl) (fun _ => ?_)); (try simp only [Act.put, List.setIfInBounds_toArray, List.set_cons_zero, List.set_cons_succ]); (try simp only [cInt])) | ((with_reducible refine wpQD_idxG 0 E_ints F_int cInt1 (by with_unfolding_all rfl) (by with_unfolding_all rfl) (hR2) (rfl) (by first | omega | (simp; done)) (by first | omega | (simp; done)) (fun _ => by with_unfolding_all rfl) (by with_unfolding_all rfl) (fun _ => by with_unfolding_all rfl) (fun _ => ?_)); (try simp only [Act.put, List.setIfInBounds_toArray, List.set_cons_zero, List.set_cons_succ]); (try simp only [cInt])) | quiet_step (fail))
                refine wpQuiet_nil ?_
                intro w2 hb3
                replace hb3 := below_drewN hb3
                go_wp2_with fail
                go_roundw
                case rel =>
                  refine ⟨j + 1, by omega, by simp, bnext hb2 hb3, fun m hm h => ?_⟩
                  by_cases e : m = j
                  · subst e; simp [h.2] at hy
                  · exact HNO.out m (by omega) h
                case measure => simp [intOf]; omega
              · go_wp2_with fail
                refine wp_region_quiet_lit (by kernel_rfl) (by kernel_rfl) ?_
                repeat (first | ((with_reducible refine wpQD_idx 0 E_ints F_int cInt1 (by with_unfolding_all rfl) (by with_unfolding_all rfl) (hR2) (by first | omega | (simp; done)) (by first | omega | (simp; done)) (fun _ => by with_unfolding_all rfl) (fun _ => ?_)); (try simp only [Act.put, List.setIfInBounds_toArray, List.set_cons_zero, List.set_cons_succ]); (try simp only [cInt])) | ((with_reducible refine wpQD_idxG 0 E_ints F_int cInt1 (by with_unfolding_all rfl) (by with_unfolding_all rfl) (hR2) (rfl) (by first | omega | (simp; done)) (by first | omega | (simp; done)) (fun _ => by with_unfolding_all rfl) (by with_unfolding_all rfl) (fun _ => by with_unfolding_all rfl) (fun _ => ?_)); (try simp only [Act.put, List.setIfInBounds_toArray, List.set_cons_zero, List.set_cons_succ]); (try simp only [cInt])) | quiet_step (fail))
                refine wpQuiet_nil ?_
                intro w2 hb3
                replace hb3 := below_drewN hb3
                go_wp2_with fail
                go_ret
                refine ⟨?_, bnext hb2 hb3⟩
                rw [HT.out, if_neg (by omega), if_pos ⟨by simpa using hx, (mem_take_iff hk).2 ⟨j, hjk, by simpa using hy⟩⟩]
                rfl
          · have e : standGo (l.take (k + 1)) (l.drop (k + 1)) = checkStand l := by
              rw [HT.out, if_neg (by omega), if_neg ?_]
              rintro ⟨h1, h2⟩
              obtain ⟨m, hm, hm2⟩ := (mem_take_iff hk).1 h2
              exact HNO.out m (by omega) ⟨h1, hm2⟩
            have HE := hid e; clear e
            go_wp2_with fail
            go_roundw
            case rel => exact ⟨k + 1, by omega, by simp, hb2, HE.out⟩
            case measure => simp [intOf]; omega
    · have : k = l.length := by omega
      subst this
      have e : standGo (l.take l.length) (l.drop l.length) = 0 := by simp [standGo]
      rw [e] at hgo
      have HG := hid hgo; clear hgo e
      go_wp2
      go_ret
      exact ⟨by rw [← HG.out]; rfl, hb⟩
end Go.Proofs.YtmomeggnegcheaaGreatDoor

/- Contracts of the reference: Legal. Conditions: the slice can be read, the move's numbers fit an int. -/
namespace Go.Proofs.YtmomeggnegcheaaGreatDoor
open Go.RowKit
set_option maxHeartbeats 1000000
set_option maxRecDepth 100000

theorem btw_inB (l : List Int) (i : Int) : btw i 0 ((l.length : Int) - 1) = inB l i := by
  have : decide (i ≤ (l.length : Int) - 1) = decide (i < l.length) := decide_eq_decide.2 (by omega)
  simp [btw, inB, this]
theorem rbt_any (l : List Int) (i : Int) (w : World) :
    Calls Tryz.prog 60 #[.int .i64 i, .int .i64 0, .int .i64 ((l.length : Int) - 1)] w fun r w' => r = .returned (.bool (inB l i)) ∧ w = w' := by
  rw [← btw_inB]
  exact rbetween_any _ _ _ _

theorem rLegal_any (f t : Int) (a : Option Addr) (cap : Nat) (l : List Int) (w : World) (hS : Ints w a cap l) :
    Calls Tryz.prog 115 #[.slice a l.length cap, .agg #[.int .i64 f, .int .i64 t]] w fun r w' => r = .returned (.int .i64 (legalN l f t)) ∧ Below w.heap.size w w' := by
  have hcap := hS.le
  have hm := hS.max
  have hR := hS.alloc (.cells #[.int .i64 f, .int .i64 t] 52)
  have hb0 := bal (Below.refl w.heap.size w) (.cells #[.int .i64 f, .int .i64 t] 52)
  have hwr : IntKind.i64.wrap ((l.length : Int) - 1) = (l.length : Int) - 1 := IntWalk.i64_in _ (by omega)
  have HRB := hid (rbt_any l)
  cases h1 : inB l f
  · have e : legalN l f t = 1 := by simp [legalN, h1]
    rw [e]
    have H1 := hid h1; clear h1 e
    go_enter Tryz.func115, Tryz.ntmps115
    go_wp2_with (go_at_call 60; refine (HRB.out f _).mono ?_; rw [H1.out]; rintro e w' ⟨rfl, rfl⟩)
    go_ret
    exact ⟨rfl, hb0⟩
  · cases h2 : inB l t
    · have e : legalN l f t = 1 := by simp [legalN, h1, h2]
      rw [e]
      have H1 := hid h1; have H2 := hid h2; clear h1 h2 e
      go_enter Tryz.func115, Tryz.ntmps115
      go_wp2_with fail
      refine (HRB.out f _).mono ?_; rw [H1.out]; rintro e w' ⟨rfl, rfl⟩
      go_wp2_with fail
      refine (HRB.out t _).mono ?_; rw [H2.out]; rintro e w' ⟨rfl, rfl⟩
      go_wp2_with fail
      go_ret
      exact ⟨rfl, hb0⟩
    · have f0 : 0 ≤ f ∧ f < l.length := by simpa [inB] using h1
      have t0 : 0 ≤ t ∧ t < l.length := by simpa [inB] using h2
      have e : legalN l f t = if atD 0 l f != 0 then if atD 0 l t == 0 then 0 else 3 else 2 := by simp only [legalN, h1, h2]; rfl
      rw [e]
      have H1 := hid h1; have H2 := hid h2; clear h1 h2 e
      obtain ⟨f1, f2⟩ := f0
      obtain ⟨t1, t2⟩ := t0
      cases hx : (atD 0 l f != 0)
      · go_enter Tryz.func115, Tryz.ntmps115
        go_wp2_with fail
        refine (HRB.out f _).mono ?_; rw [H1.out]; rintro e w' ⟨rfl, rfl⟩
        go_wp2_with fail
        refine (HRB.out t _).mono ?_; rw [H2.out]; rintro e w' ⟨rfl, rfl⟩
        have hx' : (atD 0 l f == 0) = true := by simpa using hx
        go_wp2_with (with_reducible refine wpList_idx _ 0 E_ints F_int cInt1 (by with_unfolding_all rfl) (by with_unfolding_all rfl) (hR) (by first | omega | (simp; done)) (by first | omega | (simp; done)) (fun _ => by with_unfolding_all rfl) (fun _ => ?_))
        go_ret
        exact ⟨rfl, hb0⟩
      · have hx' : (atD 0 l f == 0) = false := by simpa using hx
        cases hy : (atD 0 l t == 0)
        · have hy' : (atD 0 l t != 0) = true := by simpa using hy
          go_enter Tryz.func115, Tryz.ntmps115
          go_wp2_with fail
          refine (HRB.out f _).mono ?_; rw [H1.out]; rintro e w' ⟨rfl, rfl⟩
          go_wp2_with fail
          refine (HRB.out t _).mono ?_; rw [H2.out]; rintro e w' ⟨rfl, rfl⟩
          go_wp2_with (with_reducible refine wpList_idx _ 0 E_ints F_int cInt1 (by with_unfolding_all rfl) (by with_unfolding_all rfl) (hR) (by first | omega | (simp; done)) (by first | omega | (simp; done)) (fun _ => by with_unfolding_all rfl) (fun _ => ?_))
          go_ret
          exact ⟨rfl, hb0⟩
        · have hy' : (atD 0 l t != 0) = false := by simpa using hy
          go_enter Tryz.func115, Tryz.ntmps115
          go_wp2_with fail
          refine (HRB.out f _).mono ?_; rw [H1.out]; rintro e w' ⟨rfl, rfl⟩
          go_wp2_with fail
          refine (HRB.out t _).mono ?_; rw [H2.out]; rintro e w' ⟨rfl, rfl⟩
          go_wp2_with (with_reducible refine wpList_idx _ 0 E_ints F_int cInt1 (by with_unfolding_all rfl) (by with_unfolding_all rfl) (hR) (by first | omega | (simp; done)) (by first | omega | (simp; done)) (fun _ => by with_unfolding_all rfl) (fun _ => ?_))
          go_ret
          exact ⟨rfl, hb0⟩
end Go.Proofs.YtmomeggnegcheaaGreatDoor

/- Contract of the reference: Next. Conditions: the slice can be read, the move lies in it. -/
namespace Go.Proofs.YtmomeggnegcheaaGreatDoor
open Go.RowKit
set_option maxHeartbeats 1000000
set_option maxRecDepth 100000

theorem rNext_any (f t : Int) (a : Option Addr) (cap : Nat) (l : List Int) (w : World) (hS : Ints w a cap l) (hsm : l.length ≤ 1048576) (h0 : 0 ≤ f) (h1 : f < l.length) (h2 : 0 ≤ t) (h3 : t < l.length) :
    Calls Tryz.prog 62 #[.slice a l.length cap, .agg #[.int .i64 f, .int .i64 t]] w fun r w' => ∃ v, r = .returned v ∧ OwnI w.heap.size w' v (nextL l f t) ∧ Below w.heap.size w w' := by
  have hcap := hS.le
  have hm := hS.max
  go_enter Tryz.func62, Tryz.ntmps62
  go_wp2_with ((with_reducible refine wpList_app (B := w.heap.size + 1) (l := []) (ys := l) E_ints (by with_unfolding_all rfl) (by with_unfolding_all rfl) (own_made0 cIntS (w.alloc (.cells #[.int .i64 f, .int .i64 t] 52)) (by simp) (by simp)) ((hS.alloc _).alloc _) cIntO (by simp; omega) (by simp) (by simp; omega) ?_); intro v1 w1 ho1 hg1 _)
  have b1 : Below w.heap.size w w1 := (bal (bal (Below.refl _ _) _) _).grown hg1 (by simp; omega) (fun k hk => by simp [Value.ownBlock] at hk; omega)
  have b1' : Below (w.heap.size + 1) (w.alloc (.cells #[.int .i64 f, .int .i64 t] 52)) w1 := ((Below.refl _ _).alloc (by simp) _).grown hg1 (by simp) (fun k hk => by simp [Value.ownBlock] at hk; omega)
  simp only [List.nil_append] at ho1
  obtain ⟨a1, cap1, rfl, hr1, hf1, hbl1⟩ := ho1.reps
  obtain ⟨b', o', rfl, hcs⟩ := hS.cells (by decide) 0 f.toNat (by omega)
  have hcs := hcs 0 (.int .i64 (atD 0 l f)) rfl
  have hbs := World.block_lt_of_cell? w _ hcs
  have hcs1 := (b1.cell hbs).trans hcs
  simp at hcs1 hbs
  obtain ⟨g, e1, hgB, hcf, hff, _⟩ := own_store cInt1 ho1 0 f h0 h1
  cases e1
  obtain ⟨g', e1, _, hct, hft, _⟩ := own_store cInt1 ho1 0 t h2 h3
  cases e1
  obtain ⟨g', e1, _, _, _, ho2, hg2⟩ := own_store cInt1 ho1 (atD 0 l f) t h2 h3
  cases e1
  have ho2' : OwnI (w.heap.size + 1) (w1.setCell ⟨g, t.toNat, none⟩ (cInt (atD 0 l f))) (.slice (some ⟨g, 0, none⟩) (l.set t.toNat (atD 0 l f)).length cap1) (l.set t.toNat (atD 0 l f)) := by simpa using ho2
  obtain ⟨g', e1, _, _, _, ho3, hg3⟩ := own_store cInt1 ho2' 0 f h0 (by simpa using h1)
  cases e1
  clear ho2 ho2' hcs
  have HO3 := hid ho3; clear ho3
  have HG2 := hid hg2; clear hg2
  have HG3 := hid hg3; clear hg3
  obtain ⟨b'', o'', e1, hcv⟩ := hr1.cells (by decide) 0 f.toNat (by omega)
  cases e1
  have hcv := hcv 0 (.int .i64 (atD 0 l f)) rfl
  simp at hcv
  have hx0 : w1.cell? ⟨w.heap.size, 0, none⟩ = some (.int .i64 f) := by rw [b1'.cell (by simp)]; simp [go_sem]
  have hx1 : w1.cell? ⟨w.heap.size, 1, none⟩ = some (.int .i64 t) := by rw [b1'.cell (by simp)]; simp [go_sem]
  have hgB' : w.heap.size + 1 ≤ g := by simpa using hgB
  obtain ⟨vt, hvt⟩ := Option.isSome_iff_exists.1 hct
  obtain ⟨vf, hvf⟩ := cell?_setCell_some (w := w1) (p := ⟨g, t.toNat, none⟩) (x := .int .i64 (atD 0 l f)) (q := ⟨g, f.toNat, none⟩) (v := .int .i64 (atD 0 l f)) hcv
  have B1 := hid b1; clear b1 b1' hg1
  go_region
  go_wp2
  go_ret
  refine ⟨_, rfl, ?_, ?_⟩
  · have := HO3.out.mono (B' := w.heap.size) (by omega)
    simp at this
    exact this.drew
  · have b1 := B1.out
    have b2 := b1.grown HG2.out b1.size (fun k hk => by cases hk; omega)
    exact (b2.grown HG3.out b2.size (fun k hk => by cases hk; omega)).drew
end Go.Proofs.YtmomeggnegcheaaGreatDoor
