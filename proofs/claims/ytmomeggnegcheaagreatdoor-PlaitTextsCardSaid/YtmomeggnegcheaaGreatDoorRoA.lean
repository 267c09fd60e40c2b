/- Contract: Rounds. Conditions: slices readable, numbers fit an int, sizes as stated; Itoa answers at the period. Contract: Repeat. Conditions: the passes can be read, sizes as stated; Itoa answers at the period. -/
import Derived.Test.YtmomeggnegcheaaGreatDoorPeA
import Derived.Test.YtmomeggnegcheaaGreatDoorPlB
import Derived.Test.YtmomeggnegcheaaGreatDoorPaB
import Derived.Test.YtmomeggnegcheaaGreatDoorPrA
import Derived.Test.YtmomeggnegcheaaGreatDoorSlA
set_option linter.all false
/- Contract: Rounds. Conditions: slices readable, numbers fit an int, sizes as stated; Itoa answers at the period. -/
namespace Go.Proofs.YtmomeggnegcheaaGreatDoor
open Go.RowKit
set_option maxHeartbeats 1000000
set_option maxRecDepth 100000

theorem plc_bd (t : List Int) (x : Int) : ∀ k, 0 ≤ plc t k x ∧ plc t k x ≤ k
  | 0 => by simp [plc]
  | k + 1 => by
    have := plc_bd t x k
    rw [plc]; split <;> omega
theorem RoundL_ok {l : List Int} {ms : List (Int × Int)} (h : roundE l ms = 0) : (RoundL l ms).length = l.length ∧ l.length ≤ 64 ∧ ∀ y ∈ RoundL l ms, 0 ≤ y ∧ y ≤ 64 := by
  obtain ⟨hcs, _, _, _⟩ := roundE_zero h
  have hsz := (checkStand_zero hcs).2.1
  have e : RoundL l ms = permL l (replayL l ms).1 l.length := by rw [RoundL, if_pos h]
  rw [e]
  refine ⟨permL_len _ _ _, hsz, fun y hy => ?_⟩
  obtain ⟨i, hi, rfl⟩ := List.mem_map.1 hy
  have hi := List.mem_range.1 hi
  unfold goes
  split
  · have := plc_bd (replayL l ms).1 (atD 0 l i) (replayL l ms).1.length
    rw [replayL_len] at this ⊢
    omega
  · omega
def roundsE (l : List Int) (ms : List (Int × Int)) : Int := if roundE l ms = 0 then permE (RoundL l ms) else roundE l ms
def roundsB (l : List Int) (ms : List (Int × Int)) : ByteArray := if roundE l ms = 0 then perS (RoundL l ms) else ⟨#[]⟩

theorem Rounds_any (a a2 : Option Addr) (cap cap2 : Nat) (l : List Int) (ms : List (Int × Int)) (w : World) (hS : Ints w a cap l) (hM : Pairs w a2 cap2 ms) (hI : ∀ x ∈ l, InI x) (hms : ms.length ≤ 1048576)
    (hIt : roundE l ms = 0 → permE (RoundL l ms) = 0 → ItoaOk w (periodN (RoundL l ms))) :
    Calls Tryz.prog 13 #[.slice a l.length cap, .slice a2 ms.length cap2] w fun r w' => r = .returned (.tuple #[.string (roundsB l ms), .int .i64 (roundsE l ms)]) ∧ Below w.heap.size w w' := by
  have HR := hid (Round_any a a2 cap cap2 l ms w hS hM hI hms)
  by_cases h : roundE l ms = 0
  · obtain ⟨h1, h2, h3⟩ := RoundL_ok h
    have e1 : roundsB l ms = perS (RoundL l ms) := by unfold roundsB; rw [if_pos h]
    have e2 : roundsE l ms = permE (RoundL l ms) := by unfold roundsE; rw [if_pos h]
    rw [e1, e2]
    have hr := HR.out
    rw [h] at hr
    have hit := hIt h
    clear e1 e2 HR h hIt
    have HR := hid hr; clear hr
    have HIT := hid hit; clear hit
    obtain ⟨p, hp⟩ : ∃ p, p = RoundL l ms := ⟨_, rfl⟩
    rw [← hp] at HR HIT h1 h3 ⊢
    clear hp
    have H1 := hid h1; clear h1
    have H3 := hid h3; clear h3
    go_enter Tryz.func13, Tryz.ntmps13
    go_wp2_with fail
    refine HR.out.mono ?_
    intro e w1 hret
    obtain ⟨a1, cap1, rfl, hS1, hf1, hb1⟩ := hret.out
    go_wp2_with fail
    refine (Period_any a1 cap1 p w1 hS1 (fun x hx => by have := H3.out x hx; unfold InI; omega) (by rw [H1.out]; exact h2) (fun he => (HIT.out he).below hb1)).mono ?_
    rintro e w2 ⟨rfl, hb2⟩
    go_wp2_with fail
    go_ret2
    exact ⟨rfl, bnext hb1 hb2⟩
  · have e1 : roundsB l ms = ⟨#[]⟩ := by unfold roundsB; rw [if_neg h]
    have e2 : roundsE l ms = roundE l ms := by unfold roundsE; rw [if_neg h]
    have e3 : RoundL l ms = [] := by rw [RoundL, if_neg h]
    have hne : (roundE l ms != 0) = true := by simpa using h
    rw [e1, e2]
    have hr := HR.out
    rw [e3] at hr
    clear e1 e2 e3 HR h hIt
    have HR := hid hr; clear hr
    go_enter Tryz.func13, Tryz.ntmps13
    go_wp2_with fail
    refine HR.out.mono ?_
    intro e w1 hret
    obtain ⟨a1, cap1, rfl, hS1, hf1, hb1⟩ := hret.out
    go_wp2_with fail
    go_ret2
    exact ⟨rfl, hb1⟩
end Go.Proofs.YtmomeggnegcheaaGreatDoor

/- Contract: Repeat. Conditions: the passes can be read, sizes as stated; Itoa answers at the period. -/
namespace Go.Proofs.YtmomeggnegcheaaGreatDoor
open Go.RowKit
set_option maxHeartbeats 1000000
set_option maxRecDepth 100000

def lessL (l : List Int) (k : Nat) : List Int := (List.range k).map fun (i : Nat) => atD 0 l i - 1
theorem lessL_succ (l : List Int) (k : Nat) : lessL l (k + 1) = lessL l k ++ [atD 0 l k - 1] := by simp [lessL, List.range_succ]
theorem lessL_len (l : List Int) (k : Nat) : (lessL l k).length = k := by simp [lessL]
/-- where the strands are, from 0 on. -/
def endsP (n : Int) (l : List PassV) : List Int := lessL (rowL n.toNat (lettersAll l)).1 n.toNat
def rptE (n : Int) (l : List PassV) : Int := if passesE n l = 0 then permE (endsP n l) else passesE n l
def rptB (n : Int) (l : List PassV) : ByteArray := if passesE n l = 0 then perS (endsP n l) else ⟨#[]⟩

theorem letter_fits {n : Int} {p : PassV} (hn : n ≤ 12) (h : passE n p = 0) : ∀ x ∈ lettersL p, -1000 ≤ x ∧ x ≤ 1000 ∧ 1 ≤ absI x ∧ absI x < n.toNat := by
  obtain ⟨h1, h2, h3, h4, h5, h6, h7⟩ := passE_zero h
  intro x hx
  obtain ⟨k, hk, rfl⟩ := List.mem_map.1 hx
  have hk := List.mem_range.1 hk
  unfold distP at h6
  have hb : absI (-(letterAt p k)) = absI (letterAt p k) := by unfold absI; split <;> split <;> omega
  have key : ∀ y : Int, (p.t < p.f ∧ y = (k : Int) + 1 - p.f) ∨ (¬ p.t < p.f ∧ y = p.f + k) → -1000 ≤ y ∧ y ≤ 1000 ∧ 1 ≤ absI y ∧ absI y < n.toNat := by
    intro y hy
    unfold absI
    rcases hy with ⟨a, rfl⟩ | ⟨a, rfl⟩ <;> split <;> omega
  unfold letterAt
  split
  · split
    · have := key _ (.inl ⟨‹_›, rfl⟩)
      unfold absI at this ⊢
      split <;> split at this <;> omega
    · have := key _ (.inr ⟨‹_›, rfl⟩)
      unfold absI at this ⊢
      split <;> split at this <;> omega
  · split
    · exact key _ (.inl ⟨‹_›, rfl⟩)
    · exact key _ (.inr ⟨‹_›, rfl⟩)

theorem swapL_bd {st : List Int} {k m : Int} (hm : 0 ≤ m) (h : ∀ x ∈ st, 0 ≤ x ∧ x ≤ m) : ∀ x ∈ swapL st k, 0 ≤ x ∧ x ≤ m := by
  have hat : ∀ j : Int, 0 ≤ atD 0 st j ∧ atD 0 st j ≤ m := by
    intro j
    unfold atD
    by_cases hj : j.toNat < st.length
    · simpa [hj] using h st[j.toNat] (List.getElem_mem hj)
    · simp [List.getElem?_eq_none (Nat.le_of_not_lt hj), hm]
  intro x hx
  unfold swapL at hx
  rcases List.mem_or_eq_of_mem_set hx with hx | rfl
  · rcases List.mem_or_eq_of_mem_set hx with hx | rfl
    · exact h x hx
    · exact hat _
  · exact hat _
theorem rowGo_bd {m : Int} (hm : 0 ≤ m) : ∀ (ws st : List Int) (cr : List (Int × Int)), (∀ x ∈ st, 0 ≤ x ∧ x ≤ m) → (rowGo st cr ws).1.length = st.length ∧ ∀ x ∈ (rowGo st cr ws).1, 0 ≤ x ∧ x ≤ m
  | [], st, cr, h => ⟨rfl, h⟩
  | w :: ws, st, cr, h => by
    rw [rowGo]
    obtain ⟨h1, h2⟩ := rowGo_bd hm ws (swapL st (absI w)) (cr ++ [crossOf st w]) (swapL_bd hm h)
    exact ⟨h1.trans (swapL_len _ _), h2⟩
theorem rowL_bd (n : Nat) (ws : List Int) : (rowL n ws).1.length = n ∧ ∀ x ∈ (rowL n ws).1, 0 ≤ x ∧ x ≤ n := by
  obtain ⟨h1, h2⟩ := rowGo_bd (m := n) (by omega) ws (startL n) [] (fun x hx => by
    obtain ⟨i, hi, rfl⟩ := List.mem_map.1 hx
    have := List.mem_range.1 hi
    omega)
  exact ⟨h1.trans (by simp [startL]), h2⟩

theorem Repeat_passes (n : Int) (a : Option Addr) (cap : Nat) (l : List PassV) (w : World) (hS : PassesR w a cap l) (hl : l.length ≤ 1048576) (hw : ∀ p ∈ l, p.way.size ≤ 1048576)
    (hIt : passesE n l = 0 → permE (endsP n l) = 0 → ItoaOk w (periodN (endsP n l))) :
    Calls Tryz.prog 45 #[.int .i64 n, .slice a l.length cap] w fun r w' => r = .returned (.tuple #[.string (rptB n l), .int .i64 (rptE n l)]) ∧ Below w.heap.size w w' := by
  have hcap := hS.le
  have hm := hS.max
  have hc := CheckPasses_any n a cap l w hS hl hw
  by_cases h : passesE n l = 0
  · rw [h] at hc
    obtain ⟨hn1, hn2, hl2, hall⟩ := passesE_zero h
    obtain ⟨m, rfl⟩ := Int.eq_ofNat_of_zero_le (show 0 ≤ n by omega)
    have hfit : fitsW m (lettersAll l) := by
      intro x hx
      obtain ⟨p, hp, hx⟩ := List.mem_flatMap.1 hx
      simpa using letter_fits hn2 (hall p hp) x hx
    have eB : rptB m l = perS (endsP m l) := by unfold rptB; rw [if_pos h]
    have eE : rptE m l = permE (endsP m l) := by unfold rptE; rw [if_pos h]
    have hen : endsP m l = lessL (rowL m (lettersAll l)).1 m := by simp [endsP]
    have hit := hIt h
    rw [eB, eE]
    rw [hen] at hit ⊢
    have hbd := rowL_bd m (lettersAll l)
    obtain ⟨st, hst⟩ : ∃ st, st = (rowL m (lettersAll l)).1 := ⟨_, rfl⟩
    rw [← hst] at hbd hit ⊢
    have HST := hid hst; clear hst
    have HC := hid hc; have HA := hid hall; have HF := hid hfit; have HIT := hid hit
    have H1 := hid hbd.1
    have H2 := hid hbd.2
    clear hbd
    clear hc hall h hw eB eE hen hfit hit hIt
    go_enter Tryz.func45, Tryz.ntmps45
    go_wp2_with fail
    refine HC.out.mono ?_
    rintro e w1 ⟨rfl, hb1⟩
    go_wp2_with fail
    go_loopw [7, 9, 21] (fun v _ i wr => ∃ k : Nat, k ≤ l.length ∧ i = .int .i64 k ∧ (lettersAll (l.take k)).length ≤ 11 * k ∧ SL w.heap.size w wr [pOwn cInt 1 3 v (lettersAll (l.take k))]) (fun _ _ i _ => l.length - (intOf i).toNat)
    case atStart => exact ⟨0, by omega, rfl, by simp [lettersAll], (SL.of_below hb1).nilS cIntS⟩
    case round =>
      obtain ⟨k, hk, rfl, hlen, hSL⟩ := hrel
      have hSr := hS.below hSL.b
      by_cases hlt : k < l.length
      · have hs := lettersAll_step l k hlt
        have HS := hid hs; clear hs
        obtain ⟨z1, z2, z3, z4⟩ := passE_small hn2 (HA.out (atD pass0 l k) (by simp [atD, hlt]))
        obtain ⟨y1, y2, y3, y4, _, _, _⟩ := passE_zero (HA.out (atD pass0 l k) (by simp [atD, hlt]))
        have hlt3 := fun w => letters_any (atD pass0 l k) w y1 z1 y3 z2 (by omega) z4
        have hle : (lettersL (atD pass0 l k)).length ≤ 11 := by rw [lettersL_len]; exact z3
        have HLT := hid hlt3; clear hlt3 z4
        go_wp2_with (with_reducible refine wpList_idxS _ pass0 E_passes F_pass cPass1 (by with_unfolding_all rfl) (by with_unfolding_all rfl) (hSr) (by first | omega | (simp; done)) (by first | omega | (simp; done)) (fun _ => by with_unfolding_all rfl) (fun _ => ?_))
        refine (HLT.out _).mono ?_
        rintro e w2 ⟨v2, rfl, ho2, hb2⟩
        have hS2 := (hSL.al (.cells #[.int .i64 (atD pass0 l k).f, .int .i64 (atD pass0 l k).t, .string (atD pass0 l k).way] 78)).call (SL.ofOwn ho2 hb2)
        obtain ⟨a2, cap2, rfl, hr2⟩ := hS2.slice 0 rfl
        go_wp2_with ((with_reducible refine wpList_appL 1 E_ints (by with_unfolding_all rfl) (by with_unfolding_all rfl) (hS2) (by with_unfolding_all rfl) (hr2) (rfl) cIntO (by first | omega | (simp; omega)) (by first | omega | (simp; omega)) ?_); intro v3 w3 hS3)
        refine ⟨⟨k + 1, by omega, by go_num, by rw [HS.out, List.length_append]; omega, by rw [HS.out]; exact hS3.tail⟩, by simp [intOf]; omega⟩
      · have : k = l.length := by omega
        subst this
        rw [List.take_length] at hSL hlen
        obtain ⟨ao, capo, rfl, hro⟩ := hSL.slice 0 rfl
        go_wp2_with fail
        refine (rowOf_any m ao capo (lettersAll l) wr hro (by omega) (by omega) (by omega) HF.out).mono ?_
        rintro e w4 ⟨rfl, hrow, hb4⟩
        obtain ⟨g, capr, vc, hheap, hOst, _, _, _⟩ := hrow
        rw [← HST.out] at hheap hOst
        have hSw := hSL.mono hb4
        obtain ⟨ag, cg, e1, hRst, _⟩ := hOst.reps
        cases e1
        have c0 : w4.cell? ⟨wr.heap.size, 0, none⟩ = some (.slice (some ⟨g, 0, none⟩) st.length capr) := by rw [cell_of_row _ _ _ _ _ _ hheap]; rfl
        clear hOst hheap
        have hstl : st.length ≤ 12 := by have := H1.out; omega
        go_wp2_with fail
        go_loopw [10, 12, 37] (fun v _ i wq => ∃ k : Nat, k ≤ st.length ∧ i = .int .i64 k ∧ SL w4.heap.size w4 wq [pOwn cInt 1 3 v (lessL st k)]) (fun _ _ i _ => st.length - (intOf i).toNat)
        case atStart => exact ⟨0, by omega, rfl, (SL.nil w4).nilS cIntS⟩
        case round =>
          obtain ⟨k, hk, rfl, hSq⟩ := hrel
          have hRq := hRst.below hSq.b
          have hll := lessL_len st k
          have hll2 : (lessL st k).length ≤ 100 := by rw [hll]; have := H1.out; omega
          have HLL := hid hll; clear hll
          by_cases hlt : k < st.length
          · have hbd := H2.out (atD 0 st k) (by simp [atD, hlt])
            have hsu := lessL_succ st k
            have HSU := hid hsu; clear hsu
            go_wp2_with (first | (with_reducible refine wpList_idx _ 0 E_ints F_int cInt1 (by with_unfolding_all rfl) (by with_unfolding_all rfl) (hRq) (by first | omega | (simp; done)) (by first | omega | (simp; done)) (fun _ => by with_unfolding_all rfl) (fun _ => ?_)) | ((with_reducible refine wpList_pushL (y := (atD 0 st k - 1)) 0 E_ints (by with_unfolding_all rfl) (by with_unfolding_all rfl) (hSq) (by with_unfolding_all rfl) cIntO ⟨rfl, rfl⟩ (by first | with_unfolding_all rfl | simp) (by with_unfolding_all rfl) (by first | omega | (simp; omega)) (by first | omega | (simp; omega)) ?_); intro v3 w3 hS3))
            refine ⟨⟨k + 1, by omega, by go_num, by rw [HSU.out]; exact hS3⟩, by simp [intOf]; omega⟩
          · have hkq : k = st.length := by omega
            subst hkq
            obtain ⟨ae, cape, rfl, hre⟩ := hSq.slice 0 rfl
            have hin : ∀ x ∈ lessL st st.length, InI x := by
              intro x hx
              obtain ⟨i, hi, rfl⟩ := List.mem_map.1 hx
              have hi := List.mem_range.1 hi
              have := H2.out (atD 0 st i) (by simp [atD, hi])
              unfold InI; omega
            have hbw := hSw.b
            have hit : permE (lessL st st.length) = 0 → ItoaOk wr (periodN (lessL st st.length)) := fun he => ((HIT.out (by rw [← H1.out]; exact he)).below hbw).below hSq.b |> fun h => by rw [H1.out]; exact h
            have HP := hid (Period_any ae cape (lessL st st.length) wr hre hin (by rw [lessL_len]; omega) hit)
            clear hit hin
            go_wp2_with fail
            refine HP.out.mono ?_
            rintro e w5 ⟨rfl, hb5⟩
            go_wp2_with fail
            go_ret2
            refine ⟨?_, bnext (bnext hbw hSq.b) hb5⟩
            rw [H1.out]
            rfl
  · have e1 : rptE n l = passesE n l := by unfold rptE; rw [if_neg h]
    have e2 : rptB n l = ⟨#[]⟩ := by unfold rptB; rw [if_neg h]
    rw [e1, e2]
    obtain ⟨q, hq⟩ : ∃ q, q = passesE n l := ⟨_, rfl⟩
    rw [← hq] at hc h ⊢
    have hne : (q != 0) = true := by simpa using h
    have HC := hid hc
    clear hc hq e1 e2 hw hIt
    go_enter Tryz.func45, Tryz.ntmps45
    go_wp2_with fail
    refine HC.out.mono ?_
    rintro e w1 ⟨rfl, hb1⟩
    go_wp2_with fail
    go_ret2
    exact ⟨rfl, hb1⟩
end Go.Proofs.YtmomeggnegcheaaGreatDoor
