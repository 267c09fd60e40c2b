/- Contracts of the reference: Turned, Alike. Conditions: slices readable, numbers fit an int, sizes as stated. -/
import Derived.Test.YtogbclcnmogaeaaGreatDoorRA
import Derived.Test.YtogbclcnmogaeaaGreatDoorAl1
set_option linter.all false
namespace Go.Proofs.YtogbclcnmogaeaaGreatDoor
open Go.RowKit
set_option maxHeartbeats 1000000
set_option maxRecDepth 100000

theorem sameAt_iff (l t : List Int) (b : Int) : ∀ (n k : Nat), sameAt l t b k n = true ↔ ∀ j : Nat, k ≤ j → j < k + n → atD 0 t (((j : Int) + b) % t.length) = atD 0 l j
  | 0, k => by simp [sameAt]; omega
  | n + 1, k => by
    rw [sameAt, Bool.and_eq_true, decide_eq_true_iff, sameAt_iff l t b n (k + 1)]
    constructor
    · rintro ⟨h1, h2⟩ j hj hj2
      rcases Nat.eq_or_lt_of_le hj with rfl | h
      · exact h1
      · exact h2 j (by omega) (by omega)
    · intro h
      exact ⟨h k (Nat.le_refl _) (by omega), fun j hj hj2 => h j (by omega) (by omega)⟩
theorem sameAt_turned {l t : List Int} (h : l.length = t.length) {b : Nat} (hb : b < l.length) : sameAt l t b 0 l.length = decide (turnedL l ((b : Int) % l.length) = t) := by
  have hn : (0 : Int) < l.length := by omega
  rw [Int.emod_eq_of_lt (by omega) (by omega), Bool.eq_iff_iff, decide_eq_true_iff, sameAt_iff]
  constructor
  · intro h'
    refine ext_atD (by rw [turnedL_len, h]) (fun j hj0 hj1 => ?_)
    rw [turnedL_len] at hj1
    rw [atD_turned hj0 hj1]
    have r0 := Int.emod_nonneg (j - b) (by omega : (l.length : Int) ≠ 0)
    have r1 := Int.emod_lt_of_pos (j - b) hn
    have := h' ((j - b) % l.length).toNat (by omega) (by omega)
    rw [Int.toNat_of_nonneg r0, ← h, Int.emod_add_emod, Int.sub_add_cancel, Int.emod_eq_of_lt hj0 hj1] at this
    exact this.symm
  · rintro rfl j _ hj
    have r0 := Int.emod_nonneg ((j : Int) + b) (by omega : (l.length : Int) ≠ 0)
    have r1 := Int.emod_lt_of_pos ((j : Int) + b) hn
    rw [turnedL_len, atD_turned r0 r1, Int.emod_sub_emod, Int.add_sub_cancel, Int.emod_eq_of_lt (by omega) (by omega)]
theorem alikeGo_step {l t : List Int} (h : l.length = t.length) {b : Nat} (hb : b < l.length) : alikeGo l t b (l.length - b) = if decide (turnedL l ((b : Int) % l.length) = t) = true then (b : Int) else alikeGo l t (b + 1) (l.length - (b + 1)) := by
  rw [show l.length - b = (l.length - (b + 1)) + 1 by omega, alikeGo, sameAt_turned h hb]

theorem rTurned_any (x : Int) (a : Option Addr) (cap : Nat) (l : List Int) (w : World) (hS : Ints w a cap l) (_hx : InI x) (h0 : 0 < l.length) (h1 : l.length ≤ 1048576) :
    Calls Tryz.prog 30 #[.slice a l.length cap, .int .i64 x] w fun r w' => ∃ v, r = .returned v ∧ OwnI w.heap.size w' v (turnedL l (x % l.length)) ∧ Below w.heap.size w w' := by
  have hcap := hS.le
  have hm := hS.max
  have hn0 : (0 : Int) < l.length := by omega
  have hb0 := Int.emod_nonneg x (by omega : (l.length : Int) ≠ 0)
  have hb1 := Int.emod_lt_of_pos x hn0
  have h2 := Int.tmod_lt_of_pos x hn0
  have h3 := Int.lt_tmod_of_pos x hn0
  have e : x.tmod l.length % l.length = x % l.length := by
    have h4 := tmod_mod x l.length hn0
    rw [Int.tmod_eq_emod_of_nonneg (a := x.tmod l.length + l.length) (by omega), Int.add_emod_right] at h4
    exact h4
  obtain ⟨b, hb⟩ : ∃ b, b = x % (l.length : Int) := ⟨_, rfl⟩
  rw [← hb] at hb0 hb1 e
  rw [← hb]; clear hb
  have E := hid e; clear e
  go_enter Tryz.func30, Tryz.ntmps30
  go_wp2_with ((with_reducible refine wpList_make1 (c := cInt) (B := w.heap.size) (l.length) (0) E_intsZ cInt1 (by with_unfolding_all rfl) (by with_unfolding_all rfl) (by omega) (by omega) (by first | omega | (simp; done) | (simp; omega)) ?_); intro w1 ho1 hg1)
  have b1 := (Below.refl w.heap.size w).grown hg1 (Nat.le_refl _) (fun _ h => by cases h)
  go_loopw [7] (fun i wr => ∃ (k : Nat) (o : List Int), k ≤ l.length ∧ i = .int .i64 k ∧ OwnI w.heap.size wr (.slice (some ⟨w.heap.size, 0, none⟩) l.length l.length) o ∧ o.length = l.length ∧ (∀ i : Int, 0 ≤ i → i < k → atD 0 o ((i + b) % l.length) = atD 0 l i) ∧ Below w.heap.size w wr) (fun i _ => l.length - (intOf i).toNat)
  case atStart => exact ⟨0, _, by omega, rfl, ho1, by simp, fun i h0 h1 => by omega, b1⟩
  case round =>
    obtain ⟨k, o, hk, rfl, hO, hol, hinv, hbr⟩ := hrel
    have HOL := hid hol; clear hol
    have HV := hid hinv; clear hinv
    have hSr := hS.below hbr
    by_cases hlt : k < l.length
    · have q0 : 0 ≤ ((k : Int) + b) % (l.length : Int) := Int.emod_nonneg _ (by omega)
      have q1 : ((k : Int) + b) % (l.length : Int) < l.length := Int.emod_lt_of_pos _ (by omega)
      have m0 : 0 ≤ x.tmod l.length % (l.length : Int) := Int.emod_nonneg _ (by omega)
      have m1 : x.tmod l.length % (l.length : Int) < l.length := Int.emod_lt_of_pos _ (by omega)
      have Q1 : ((k : Int) + x.tmod l.length % l.length) % l.length = ((k : Int) + b) % l.length := by rw [E.out]
      have Q2 : ((k : Int) + x.tmod l.length) % l.length = ((k : Int) + b) % l.length := by rw [← Int.add_emod_emod, E.out]
      obtain ⟨b', o', rfl, hcs⟩ := hS.cells (by decide) 0 k (by omega)
      have hcs := hcs 0 (.int .i64 (atD 0 l k)) rfl
      have hcs2 := (hbr.cell (World.block_lt_of_cell? w _ hcs)).trans hcs
      simp at hcs2
      obtain ⟨q, hq⟩ : ∃ q, q = ((k : Int) + b) % (l.length : Int) := ⟨_, rfl⟩
      rw [← hq] at q0 q1 Q1 Q2
      have hO' : OwnI w.heap.size wr (.slice (some ⟨w.heap.size, 0, none⟩) o.length l.length) o := by rw [HOL.out]; exact hO
      obtain ⟨g, e1, hgB, hct, hft, ho2, hg2⟩ := own_store cInt1 hO' (atD 0 l k) q q0 (by rw [HOL.out]; exact q1)
      cases e1
      obtain ⟨vt, hvt⟩ := Option.isSome_iff_exists.1 hct
      have HO2 := hid ho2; have HG2 := hid hg2; have HQ := hid hq
      clear ho2 hg2 hcs hct hq
      go_wp2_with fail
      go_region
      go_wp2
      have hS2 : OwnI w.heap.size (wr.setCell ⟨w.heap.size, q.toNat, none⟩ (cInt (atD 0 l k))) (.slice (some ⟨w.heap.size, 0, none⟩) l.length l.length) (o.set q.toNat (atD 0 l k)) := by
        have := HO2.out
        rw [HOL.out] at this
        exact this
      have b2 := (hbr.grown HG2.out hbr.size (fun k hk => by cases hk; exact Nat.le_refl _)).drew
      refine ⟨⟨k + 1, _, by omega, by go_num, hS2.drew, by simpa using HOL.out, fun i hi0 hi1 => ?_, b2⟩, by simp [intOf]; omega⟩
      rw [HQ.out] at q0 q1 ⊢
      have r0 := Int.emod_nonneg (i + b) (by omega : (l.length : Int) ≠ 0)
      have r1 := Int.emod_lt_of_pos (i + b) hn0
      rw [atD_set q0 (by rw [HOL.out]; exact q1) r0]
      by_cases e : i = k
      · subst e; simp
      · rw [if_neg, HV.out i hi0 (by omega)]
        intro e2
        have e3 := (emod_shift (b := b) (j := ((k : Int) + b) % l.length) hi0 (by omega : i < (l.length : Int)) q0 q1).1 e2
        have e4 := (emod_shift (b := b) (j := ((k : Int) + b) % l.length) (by omega : (0 : Int) ≤ k) (by omega : (k : Int) < (l.length : Int)) q0 q1).1 rfl
        exact e (e3.trans e4.symm)
    · have : k = l.length := by omega
      subst this
      have hfin : o = turnedL l b := by
        refine ext_atD (by rw [HOL.out, turnedL_len]) (fun j hj0 hj1 => ?_)
        rw [HOL.out] at hj1
        have r0 := Int.emod_nonneg (j - b) (by omega : (l.length : Int) ≠ 0)
        have r1 := Int.emod_lt_of_pos (j - b) (by omega : (0 : Int) < l.length)
        rw [atD_turned hj0 hj1, ← HV.out _ r0 r1]
        rw [Int.emod_add_emod, Int.sub_add_cancel, Int.emod_eq_of_lt hj0 hj1]
      have HF := hid hfin; clear hfin
      go_wp2_with fail
      go_ret
      exact ⟨_, rfl, by rw [← HF.out]; exact hO, hbr⟩

theorem rAlike_any (a a2 : Option Addr) (cap cap2 : Nat) (l t : List Int) (w : World) (hS : Ints w a cap l) (hT : Ints w a2 cap2 t) (h : l.length = t.length) (h0 : 0 < l.length) (h1 : l.length ≤ 1048576) :
    Calls Tryz.prog 31 #[.slice a l.length cap, .slice a2 t.length cap2] w fun r w' => r = .returned (.int .i64 (alikeGo l t 0 l.length)) ∧ Below w.heap.size w w' := by
  have hcap := hS.le
  have hm := hS.max
  have HL := hid h; clear h
  go_enter Tryz.func31, Tryz.ntmps31
  go_wp2
  go_loopw [5] (fun i wr => ∃ k : Nat, k ≤ l.length ∧ i = .int .i64 k ∧ alikeGo l t k (l.length - k) = alikeGo l t 0 l.length ∧ Below w.heap.size w wr) (fun i _ => l.length - (intOf i).toNat)
  case atStart => exact ⟨0, by omega, rfl, rfl, Below.refl _ _⟩
  case round =>
    obtain ⟨k, hk, rfl, hgo, hbr⟩ := hrel
    by_cases hlt : k < l.length
    · rw [alikeGo_step HL.out hlt] at hgo
      have CT := rTurned_any k a cap l wr (hS.below hbr) (by unfold InI; omega) h0 h1
      obtain ⟨L, hL⟩ : ∃ L, L = turnedL l ((k : Int) % l.length) := ⟨_, rfl⟩
      have hLl : L.length = l.length := by rw [hL, turnedL_len]
      rw [← hL] at hgo CT
      have HG := hid hgo; have HC := hid CT; have HLL := hid hLl
      clear hgo CT hL hLl
      go_wp2_with fail
      refine HC.out.mono ?_
      rintro e w2 ⟨v, rfl, hO, hb2⟩
      obtain ⟨a3, cap3, rfl, hr3, hf3, _⟩ := hO.reps
      have b2 := bnext hbr hb2
      go_wp2_with fail
      refine (SameInts_any a3 a2 cap3 cap2 L t w2 hr3 (hT.below b2) (by rw [HLL.out]; omega)).mono ?_
      rintro e w3 ⟨rfl, hb3⟩
      have b3 := bnext b2 hb3
      cases hd : decide (L = t)
      · have HD := hid hd; clear hd
        have e2 : alikeGo l t (k + 1) (l.length - (k + 1)) = alikeGo l t 0 l.length := by rw [← HG.out, HD.out]; rfl
        have HE := hid e2; clear e2
        go_wp2_with fail
        go_roundw
        case rel => exact ⟨k + 1, by omega, by go_num, HE.out, b3⟩
        case measure => simp [intOf]; omega
      · have HD := hid hd; clear hd
        have e2 : alikeGo l t 0 l.length = k := by rw [← HG.out, HD.out]; rfl
        have HE := hid e2; clear e2
        go_wp2_with fail
        go_ret
        exact ⟨by rw [HE.out]; rfl, b3⟩
    · have : k = l.length := by omega
      subst this
      have e2 : alikeGo l t 0 l.length = -1 := by rw [← hgo]; simp [alikeGo]
      have HE := hid e2; clear e2 hgo
      go_wp2_with fail
      go_ret
      exact ⟨by rw [HE.out]; rfl, hbr⟩
end Go.Proofs.YtogbclcnmogaeaaGreatDoor
