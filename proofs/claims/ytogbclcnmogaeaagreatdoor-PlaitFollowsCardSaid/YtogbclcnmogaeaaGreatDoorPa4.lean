/- Contract: Word. Conditions: slices readable, sizes as stated. -/
import Derived.Test.YtogbclcnmogaeaaGreatDoorPa3
import Derived.Test.YtogbclcnmogaeaaGreatDoorPaA
import Derived.Test.YtogbclcnmogaeaaGreatDoorPa2
set_option linter.all false
namespace Go.Proofs.YtogbclcnmogaeaaGreatDoor
open Go.RowKit
set_option maxHeartbeats 1000000
set_option maxRecDepth 100000

theorem dropWhile_nil_all {α : Type} (q : α → Bool) : ∀ l : List α, l.dropWhile q = [] → ∀ x ∈ l, q x = true
  | [], _ => by simp
  | x :: r, h => by
    rw [List.dropWhile_cons] at h
    split at h
    · next hx =>
      intro y hy
      rcases List.mem_cons.1 hy with rfl | hy
      · exact hx
      · exact dropWhile_nil_all q r h y hy
    · cases h
theorem trimS_nil {l cs : List UInt8} (h : Lib.trimS l cs = []) : ∀ x ∈ l, cs.contains x = true := by
  unfold Lib.trimS Lib.trimLeftS at h
  have h1 := dropWhile_nil_all _ _ h
  unfold Lib.trimRightS at h1 h
  generalize hd : l.reverse.dropWhile (cs.contains ·) = d at *
  match d, hd with
  | [], hd => intro x hx; exact dropWhile_nil_all _ _ hd x (by simpa using hx)
  | y :: r, hd =>
    exfalso
    have hy : cs.contains y = true := h1 y (by simp)
    have := List.head?_dropWhile_not (cs.contains ·) l.reverse
    rw [hd] at this
    simp at this
    simp at hy
    exact this hy
theorem trimOU_nil {s : ByteArray} (h : trimOU s = ⟨#[]⟩) : ∀ k, k < s.size → byteAt s k = 111 ∨ byteAt s k = 117 := by
  intro k hk
  have h1 : Lib.trimS s.data.toList [111, 117] = [] := by
    unfold trimOU at h
    injection h with h
    simpa using h
  have h2 := trimS_nil h1 (s[k]'hk) (by rw [ByteArray.getElem_eq_getElem_data]; simp)
  rw [byteAt_in hk]
  simp at h2
  rcases h2 with h2 | h2 <;> rw [h2] <;> simp

theorem passesGo_zero {n : Int} : ∀ {l : List PassV}, passesGo n l = 0 → ∀ p ∈ l, passE n p = 0
  | [], _ => by simp
  | p :: r, h => by
    rw [passesGo] at h
    split at h
    · next h1 => exact absurd h h1
    · next h1 =>
      intro q hq
      rcases List.mem_cons.1 hq with rfl | hq
      · simpa using h1
      · exact passesGo_zero h q hq
theorem passE_zero {n : Int} {p : PassV} (h : passE n p = 0) : 1 ≤ p.f ∧ p.f ≤ n ∧ 1 ≤ p.t ∧ p.t ≤ n ∧ p.t ≠ p.f ∧ (p.way.size : Int) = distP p ∧ ∀ k, k < p.way.size → byteAt p.way k = 111 ∨ byteAt p.way k = 117 := by
  unfold passE at h
  split at h
  · omega
  · split at h
    · omega
    · split at h
      · omega
      · split at h
        · omega
        · next h1 h2 h3 h4 => exact ⟨by omega, by omega, by omega, by omega, h2, by omega, trimOU_nil (by simpa using h4)⟩
theorem passesE_zero {n : Int} {l : List PassV} (h : passesE n l = 0) : 2 ≤ n ∧ n ≤ 12 ∧ l.length ≤ 1000 ∧ ∀ p ∈ l, passE n p = 0 := by
  unfold passesE at h
  split at h
  · omega
  · split at h
    · omega
    · exact ⟨by omega, by omega, by omega, passesGo_zero h⟩
theorem passE_small {n : Int} {p : PassV} (hn : n ≤ 12) (h : passE n p = 0) : p.f ≤ 12 ∧ p.t ≤ 12 ∧ p.way.size ≤ 11 ∧ ∀ k, k < p.way.size → byteAt p.way k < 128 := by
  obtain ⟨h1, h2, h3, h4, h5, h6, h7⟩ := passE_zero h
  refine ⟨by omega, by omega, ?_, fun k hk => by have := h7 k hk; omega⟩
  unfold distP at h6
  split at h6 <;> omega

def lettersAll (l : List PassV) : List Int := l.flatMap lettersL
theorem lettersL_len (p : PassV) : (lettersL p).length = p.way.size := lettersK_len p _
theorem lettersAll_step (l : List PassV) (k : Nat) (h : k < l.length) : lettersAll (l.take (k + 1)) = lettersAll (l.take k) ++ lettersL (atD pass0 l k) := by
  have e2 : atD pass0 l k = l[k] := by simp [atD, h]
  unfold lettersAll
  rw [List.take_succ_eq_append_getElem h, e2, List.flatMap_append, List.flatMap_singleton]
def wordErr (n : Int) (l : List PassV) : Int := if passesE n l ≠ 0 then passesE n l else if 200 < (lettersAll l).length then 5 else 0
def wordL (n : Int) (l : List PassV) : List Int := if wordErr n l = 0 then lettersAll l else []

theorem Word_any (n : Int) (a : Option Addr) (cap : Nat) (l : List PassV) (w : World) (hS : PassesR w a cap l) (hl : l.length ≤ 1048576) (hw : ∀ p ∈ l, p.way.size ≤ 1048576) :
    Calls Tryz.prog 73 #[.int .i64 n, .slice a l.length cap] w fun r w' => RetLE w (wordL n l) (wordErr n l) r w' := by
  have hcap := hS.le
  have hm := hS.max
  have hc := CheckPasses_any n a cap l w hS hl hw
  by_cases h : passesE n l = 0
  · rw [h] at hc
    obtain ⟨hn1, hn2, hl2, hall⟩ := passesE_zero h
    have eE : wordErr n l = if 200 < (lettersAll l).length then 5 else 0 := by simp [wordErr, h]
    have HE := hid eE; have HC := hid hc; have HA := hid hall
    clear eE hc hall h hw
    go_enter Tryz.func73, Tryz.ntmps73
    go_wp2_with fail
    refine HC.out.mono ?_
    rintro e w1 ⟨rfl, hb1⟩
    go_wp2_with fail
    go_loopw [7, 9, 18] (fun v _ i wr => ∃ k : Nat, k ≤ l.length ∧ i = .int .i64 k ∧ OwnI w.heap.size wr v (lettersAll (l.take k)) ∧ (lettersAll (l.take k)).length ≤ 11 * k ∧ Below w.heap.size w wr) (fun _ _ i _ => l.length - (intOf i).toNat)
    case atStart => exact ⟨0, by omega, rfl, own_nil cIntS, by simp [lettersAll], hb1⟩
    case round =>
      obtain ⟨k, hk, rfl, hO, hlen, hbr⟩ := hrel
      have hSr := hS.below hbr
      by_cases hlt : k < l.length
      · have hs := lettersAll_step l k hlt
        have HS := hid hs; clear hs
        obtain ⟨z1, z2, z3, z4⟩ := passE_small hn2 (HA.out (atD pass0 l k) (by simp [atD, hlt]))
        obtain ⟨y1, y2, y3, y4, _, _, _⟩ := passE_zero (HA.out (atD pass0 l k) (by simp [atD, hlt]))
        have hlt3 := fun w => letters_any (atD pass0 l k) w y1 z1 y3 z2 (by omega) z4
        have hle : (lettersL (atD pass0 l k)).length ≤ 11 := by rw [lettersL_len]; exact z3
        have HLT := hid hlt3; clear hlt3 z4
        have hbs := hbr.size
        go_wp2_with (with_reducible refine wpList_idxS _ pass0 E_passes F_pass cPass1 (by with_unfolding_all rfl) (by with_unfolding_all rfl) (hSr) (by first | omega | (simp; done)) (by first | omega | (simp; done)) (fun _ => by with_unfolding_all rfl) (fun _ => ?_))
        refine (HLT.out _).mono ?_
        rintro e w2 ⟨v2, rfl, ho2, hb2⟩
        obtain ⟨a2, cap2, rfl, hr2, _, _⟩ := ho2.reps
        have hO2 := ((hO.alloc (.cells #[.int .i64 (atD pass0 l k).f, .int .i64 (atD pass0 l k).t, .string (atD pass0 l k).way] 116)).below hb2)
        have hbr2 := bnext (bal hbr (.cells #[.int .i64 (atD pass0 l k).f, .int .i64 (atD pass0 l k).t, .string (atD pass0 l k).way] 116)) hb2
        have hbs2 := hbr2.size
        go_wp2_with ((with_reducible refine wpList_app (B := w.heap.size) (l := lettersAll (l.take k)) (ys := lettersL (atD pass0 l k)) E_ints (by with_unfolding_all rfl) (by with_unfolding_all rfl) hO2 hr2 cIntO (by omega) (by omega) (by omega) ?_); intro v3 w3 ho3 hg3 _)
        refine ⟨⟨k + 1, by omega, by go_num, by rw [HS.out]; exact ho3, by rw [HS.out, List.length_append]; omega, below_own hbr2 hg3 hO2 (Nat.le_refl _)⟩, by simp [intOf]; omega⟩
      · have : k = l.length := by omega
        subst this
        rw [List.take_length] at hO hlen
        obtain ⟨ao, capo, rfl, hro, _, _⟩ := hO.reps
        by_cases hlong : 200 < (lettersAll l).length
        · have e1 : wordErr n l = 5 := by rw [HE.out, if_pos hlong]
          have e2 : wordL n l = [] := by rw [wordL, e1]; rfl
          have E1 := hid e1; have E2 := hid e2
          clear e1 e2
          go_wp2_with fail
          go_ret2
          rw [E1.out, E2.out]
          exact RetLE.none rfl hbr
        · have e1 : wordErr n l = 0 := by rw [HE.out, if_neg hlong]
          have e2 : wordL n l = lettersAll l := by rw [wordL, e1]; rfl
          have E1 := hid e1; have E2 := hid e2
          clear e1 e2
          go_wp2_with fail
          go_ret2
          rw [E1.out, E2.out]
          exact RetLE.own _ rfl hO (Nat.le_refl _) hbr
  · have e1 : wordErr n l = passesE n l := by simp [wordErr, h]
    have e2 : wordL n l = [] := by rw [wordL, e1, if_neg h]
    rw [e1, e2]
    obtain ⟨q, hq⟩ : ∃ q, q = passesE n l := ⟨_, rfl⟩
    rw [← hq] at hc h ⊢
    have hne : (q != 0) = true := by simpa using h
    have HC := hid hc
    clear hc hq e1 e2 hw
    go_enter Tryz.func73, Tryz.ntmps73
    go_wp2_with fail
    refine HC.out.mono ?_
    rintro e w1 ⟨rfl, hb1⟩
    go_wp2_with fail
    go_ret2
    exact RetLE.none rfl hb1
end Go.Proofs.YtogbclcnmogaeaaGreatDoor
