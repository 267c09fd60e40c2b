/- Contract: round. Conditions: slices readable, numbers fit an int, sizes as stated. Contract: Round. Conditions: slices readable, numbers fit an int, sizes as stated. Contracts: modulo, turned, Turned. Conditions: slices readable, numbers fit an int, sizes as stated. Contracts: turned, Turned. Conditions: slices readable, numbers fit an int, sizes as stated. -/
import Derived.Test.YtmomeggnegcheaaGreatDoorPlA
import Derived.Test.YtmomeggnegcheaaGreatDoorQA
import Derived.Test.YtmomeggnegcheaaGreatDoorTyA
set_option linter.all false
/- Contract: round. Conditions: slices readable, numbers fit an int, sizes as stated. -/
namespace Go.Proofs.YtmomeggnegcheaaGreatDoor
open Go.RowKit
set_option maxHeartbeats 400000
set_option maxRecDepth 100000

theorem standGo_zero : ∀ (r seen : List Int), standGo seen r = 0 → ∀ x ∈ r, 0 ≤ x ∧ x ≤ 64
  | [], _, _ => by simp
  | x :: r, seen, h => by
    rw [standGo] at h
    split at h
    · omega
    · split at h
      · omega
      · intro y hy
        rcases List.mem_cons.1 hy with rfl | hy
        · omega
        · exact standGo_zero r _ h y hy
theorem checkStand_zero {l : List Int} (h : checkStand l = 0) : 4 ≤ l.length ∧ l.length ≤ 64 ∧ (∀ x ∈ l, 0 ≤ x ∧ x ≤ 64) ∧ standGo [] l = 0 := by
  unfold checkStand at h
  split at h
  · omega
  · split at h
    · omega
    · exact ⟨by omega, by omega, standGo_zero _ _ h, h⟩

theorem mem_nextL {l : List Int} {f t x : Int} (h : x ∈ nextL l f t) : x ∈ l ∨ x = 0 := by
  unfold nextL at h
  rcases List.mem_or_eq_of_mem_set h with h | h
  · rcases List.mem_or_eq_of_mem_set h with h | h
    · exact .inl h
    · rw [h]; unfold atD
      by_cases hf : f.toNat < l.length
      · left; rw [List.getD_eq_getElem?_getD, List.getElem?_eq_getElem hf]; exact List.getElem_mem hf
      · right; rw [List.getD_eq_getElem?_getD, List.getElem?_eq_none (by omega)]; rfl
  · exact .inr h
theorem mem_replayGo : ∀ (ms : List (Int × Int)) (s : List Int) (k : Nat) (aside : List (Int × Int)) (x : Int), x ∈ (replayGo s ms k aside).1 → x ∈ s ∨ x = 0
  | [], s, k, aside, x, h => .inl h
  | m :: r, s, k, aside, x, h => by
    rw [replayGo] at h
    split at h
    · rcases mem_replayGo r _ _ _ x h with h | h
      · exact mem_nextL h
      · exact .inr h
    · exact mem_replayGo r _ _ _ x h

def sameB (a b : Int) : Bool := (a == 0) == (b == 0)
def shapeGo (l t : List Int) (k : Nat) : Nat → Bool
  | 0 => true
  | n + 1 => sameB (atD 0 l k) (atD 0 t k) && shapeGo l t (k + 1) n
/-- the error of a round, and the stand after it. -/
def roundE (l : List Int) (ms : List (Int × Int)) : Int :=
  if checkStand l ≠ 0 then checkStand l else if manyE ms.length ≠ 0 then manyE ms.length else if (replayL l ms).2 ≠ [] then 18 else if shapeGo l (replayL l ms).1 0 l.length then 0 else 19

def roundL (l : List Int) (ms : List (Int × Int)) : List Int := if roundE l ms = 0 then (replayL l ms).1 else []
theorem firstE2 (a b : Int) : firstE [a, b] = if a ≠ 0 then a else b := by
  rw [firstE_cons, firstE_cons, firstE_nil]; by_cases h : a = 0 <;> by_cases h2 : b = 0 <;> simp [h, h2]

theorem round_any (a a2 : Option Addr) (cap cap2 : Nat) (l : List Int) (ms : List (Int × Int)) (w : World) (hS : Ints w a cap l) (hM : Pairs w a2 cap2 ms) (hI : ∀ x ∈ l, InI x) (hms : ms.length ≤ 1048576) :
    Calls Tryz.prog 52 #[.slice a l.length cap, .slice a2 ms.length cap2] w fun r w' => RetLE w (roundL l ms) (roundE l ms) r w' := by
  have hcap := hS.le
  have hm := hS.max
  have hcap2 := hM.le
  have hm2 := hM.max
  by_cases h : checkStand l = 0
  · have hsz := (checkStand_zero h).1
    have hsz2 := (checkStand_zero h).2.1
    have hc := CheckStand_any a cap l w hS hI
    rw [h] at hc
    have HC := hid hc; clear hc
    by_cases hn : manyE ms.length = 0
    · have hr : roundE l ms = if (replayL l ms).2 ≠ [] then 18 else if shapeGo l (replayL l ms).1 0 l.length then 0 else 19 := by simp [roundE, h, hn]
      have HR := hid hr; clear hr
      have HN := hid hn; clear hn h
      go_enter Tryz.func52, Tryz.ntmps52
      go_wp2_with fail
      refine HC.out.mono ?_
      rintro e w1 ⟨rfl, hb1⟩
      go_wp2_with fail
      refine (checkMoves_any a2 cap2 ms.length w1 hms).mono ?_
      rw [HN.out]
      rintro e w2 ⟨rfl, rfl⟩
      go_wp2_with (go_at_call 54; refine (first_any _ _ [_, _] _ (reps_newN cIntS [_, _] 2 rfl (by decide) _ _ (by simp) rfl)).mono ?_; rintro e w' ⟨rfl, rfl⟩)
      refine (replay_any a a2 cap cap2 l ms _ ((hS.below hb1).alloc _) ((hM.below hb1).alloc _) (by omega) (by omega) hms).mono ?_
      rintro e w3 ⟨a3, cap3, v3, rfl, hlen3, hS3, hA3, hf3, hb3⟩
      obtain ⟨a4, cap4, rfl, hr4, _, _⟩ := hA3.reps
      have b3 := bnext (bal hb1 _) hb3
      have hf3' : ∀ b, a3 = some b → w.heap.size ≤ b.block := fun b hb => by
        have h1 := hf3 b hb; have h2 := hb1.size; simp at h1; omega
      obtain ⟨t, ht⟩ : ∃ t, t = (replayL l ms).1 := ⟨_, rfl⟩
      obtain ⟨aside, hasd⟩ : ∃ t, t = (replayL l ms).2 := ⟨_, rfl⟩
      have hr := HR.out
      rw [← ht, ← hasd] at hr
      rw [← ht] at hlen3 hS3
      rw [← hasd] at hr4
      rw [show (replayL l ms).2.length = aside.length by rw [hasd]]
      have HR2 := hid hr; clear hr HR
      have HT := hid ht; clear ht hasd
      have HL := hid hlen3; clear hlen3 HN
      by_cases has : aside = []
      · subst has
        have hS4 := hS.below b3
        have hr := HR2.out
        simp only [ne_eq, not_true, if_false] at hr
        have HR3 := hid hr; clear hr HR2 hA3
        go_wp2_with fail
        go_loopw [30, 9] (fun i _ wr => ∃ k : Nat, k ≤ l.length ∧ i = .int .i64 k ∧ shapeGo l t k (l.length - k) = shapeGo l t 0 l.length ∧ Below w3.heap.size w3 wr) (fun i _ _ => l.length - (intOf i).toNat)
        case atStart => exact ⟨0, by omega, rfl, rfl, Below.refl _ _⟩
        case round =>
          obtain ⟨k, hk, rfl, hsh, hbr⟩ := hrel
          by_cases hlt : k < l.length
          · have hst : shapeGo l t k (l.length - k) = (sameB (atD 0 l k) (atD 0 t k) && shapeGo l t (k + 1) (l.length - (k + 1))) := by
              rw [show l.length - k = (l.length - (k + 1)) + 1 by omega, shapeGo]
            rw [hsh] at hst
            have HST := hid hst; clear hst
            have HSH := hid hsh; clear hsh
            have hx : (k : Int) < t.length := by rw [HL.out]; omega
            go_wp2_with fail
            have hS5 := hS4.below hbr
            have hS6 := hS3.below hbr
            refine wp_region_quiet_lit (by kernel_rfl) (by kernel_rfl) ?_
            repeat (first | ((with_reducible refine wpQD_idx 0 E_ints F_int cInt1 (by with_unfolding_all rfl) (by with_unfolding_all rfl) (hS5) (by first | omega | (simp; done)) (by first | omega | (simp; done)) (fun _ => by with_unfolding_all rfl) (fun _ => ?_)); (try simp only [Act.put, List.setIfInBounds_toArray, List.set_cons_zero, List.set_cons_succ]); (try simp only [cInt])) | ((with_reducible refine wpQD_idxN 0 E_ints F_int cInt1 (by with_unfolding_all rfl) (by with_unfolding_all rfl) (hS6) (HL.out) (by first | omega | (simp; done)) (by first | omega | (simp; done)) (fun _ => by with_unfolding_all rfl) (fun _ => ?_)); (try simp only [Act.put, List.setIfInBounds_toArray, List.set_cons_zero, List.set_cons_succ]); (try simp only [cInt])) | quiet_step (fail))
            refine wpQuiet_nil ?_
            intro w5 hb5
            replace hb5 := below_drewN hb5
            have b5 := bnext hbr hb5
            go_wp2_with fail
            · have hd : (!((atD 0 l k == 0) == (atD 0 t k == 0))) = true := by assumption
              have hs0 : sameB (atD 0 l k) (atD 0 t k) = false := by
                revert hd; unfold sameB; cases (atD 0 l k == 0) <;> cases (atD 0 t k == 0) <;> simp
              have hst := HST.out
              rw [hs0, Bool.false_and] at hst
              have hr := HR3.out
              simp [hst] at hr
              have e1 : roundL l ms = [] := by simp [roundL, hr]
              go_ret2
              rw [e1, hr]
              exact RetLE.none rfl (bnext b3 b5)
            · have hd : (!((atD 0 l k == 0) == (atD 0 t k == 0))) = false := by assumption
              have hs0 : sameB (atD 0 l k) (atD 0 t k) = true := by
                revert hd; unfold sameB; cases (atD 0 l k == 0) <;> cases (atD 0 t k == 0) <;> simp
              have hst := HST.out
              rw [hs0, Bool.true_and] at hst
              exact ⟨⟨k + 1, by omega, by go_num, hst.symm, b5⟩, by simp [intOf]; omega⟩
          · have : k = l.length := by omega
            subst this
            rw [Nat.sub_self, shapeGo] at hsh
            have hr := HR3.out
            rw [← hsh, if_pos rfl] at hr
            have e1 : roundL l ms = t := by rw [roundL, if_pos hr, HT.out]
            have E1 := hid e1
            have HRR := hid hr
            clear e1 hr hsh
            go_wp2
            go_ret2
            rw [E1.out, HRR.out]
            exact RetLE.mk a3 cap3 (by rw [HL.out]; rfl) (hS3.below hbr) hf3' (bnext b3 hbr)
      · have h0 : 0 < aside.length := by cases aside <;> simp_all
        have hr := HR2.out
        rw [if_pos has] at hr
        go_wp2_with fail
        go_ret2
        have e1 : roundL l ms = [] := by simp [roundL, hr]
        rw [e1, hr]
        exact RetLE.none rfl b3
    · have hr : roundE l ms = manyE ms.length := by simp [roundE, h, hn]
      have e1 : roundL l ms = [] := by simp [roundL, hr, hn]
      rw [e1, hr]
      clear e1
      have hne : (manyE ms.length != 0) = true := by simpa using hn
      have HN := hid hn; clear hn h hr
      go_enter Tryz.func52, Tryz.ntmps52
      go_wp2_with fail
      refine HC.out.mono ?_
      rintro e w1 ⟨rfl, hb1⟩
      go_wp2_with fail
      refine (checkMoves_any a2 cap2 ms.length w1 hms).mono ?_
      rintro e w2 ⟨rfl, rfl⟩
      go_wp2_with (go_at_call 54; refine (first_any _ _ [_, _] _ (reps_newN cIntS [_, _] 2 rfl (by decide) _ _ (by simp) rfl)).mono ?_; rintro e w' ⟨rfl, rfl⟩)
      go_ret2
      exact RetLE.none rfl (bal hb1 _)
  · have hr : roundE l ms = checkStand l := by simp [roundE, h]
    have e1 : roundL l ms = [] := by simp [roundL, hr, h]
    rw [e1, hr]
    clear e1
    have hc := CheckStand_any a cap l w hS hI
    have hne : (checkStand l != 0) = true := by simpa using h
    have HC := hid hc; clear hc
    have HH := hid h; clear h hr
    go_enter Tryz.func52, Tryz.ntmps52
    go_wp2_with fail
    refine HC.out.mono ?_
    rintro e w1 ⟨rfl, hb1⟩
    go_wp2_with fail
    refine (checkMoves_any a2 cap2 ms.length w1 hms).mono ?_
    rintro e w2 ⟨rfl, rfl⟩
    go_wp2_with (go_at_call 54; refine (first_any _ _ [_, _] _ (reps_newN cIntS [_, _] 2 rfl (by decide) _ _ (by simp) rfl)).mono ?_; rintro e w' ⟨rfl, rfl⟩)
    go_ret2
    exact RetLE.none rfl (bal hb1 _)
end Go.Proofs.YtmomeggnegcheaaGreatDoor

/- Contract: Round. Conditions: slices readable, numbers fit an int, sizes as stated. -/
namespace Go.Proofs.YtmomeggnegcheaaGreatDoor
open Go.RowKit
set_option maxHeartbeats 400000
set_option maxRecDepth 100000

/-- where a thread stands last in the first k slots. -/
def plc (t : List Int) : Nat → Int → Int
  | 0, _ => 0
  | k + 1, x => if x = atD 0 t k then k else plc t k x
def goes (l t : List Int) (i : Nat) : Int := if atD 0 l i != 0 then plc t t.length (atD 0 l i) else i
def permL (l t : List Int) (k : Nat) : List Int := (List.range k).map (goes l t)
theorem permL_succ (l t : List Int) (k : Nat) : permL l t (k + 1) = permL l t k ++ [goes l t k] := by simp [permL, List.range_succ]
theorem permL_len (l t : List Int) (k : Nat) : (permL l t k).length = k := by simp [permL]
def RoundL (l : List Int) (ms : List (Int × Int)) : List Int := if roundE l ms = 0 then permL l (replayL l ms).1 l.length else []

theorem roundE_zero {l : List Int} {ms : List (Int × Int)} (h : roundE l ms = 0) : checkStand l = 0 ∧ manyE ms.length = 0 ∧ (replayL l ms).2 = [] ∧ shapeGo l (replayL l ms).1 0 l.length = true := by
  unfold roundE at h
  split at h
  · rename_i h1; exact absurd h h1
  · split at h
    · rename_i h1; exact absurd h h1
    · split at h
      · omega
      · split at h
        · rename_i h1 h2 h3 h4; exact ⟨by simpa using h1, by simpa using h2, by simpa using h3, h4⟩
        · omega

theorem replayGo_len : ∀ (ms : List (Int × Int)) (s : List Int) (k : Nat) (aside : List (Int × Int)), (replayGo s ms k aside).1.length = s.length
  | [], s, k, aside => rfl
  | m :: r, s, k, aside => by
    rw [replayGo]
    split
    · rw [replayGo_len r, nextL_len]
    · rw [replayGo_len r]
theorem replayL_len (l : List Int) (ms : List (Int × Int)) : (replayL l ms).1.length = l.length := replayGo_len ms l 0 []
theorem replayL_mem {l : List Int} {ms : List (Int × Int)} (h : checkStand l = 0) : ∀ x ∈ (replayL l ms).1, 0 ≤ x ∧ x ≤ 64 := by
  intro x hx
  rcases mem_replayGo ms l 0 [] x hx with h1 | h1
  · exact (checkStand_zero h).2.2.1 x h1
  · omega
theorem atD_mem {l : List Int} {k : Nat} (h : k < l.length) : atD 0 l k ∈ l := by simp [atD, h]
theorem inI_small {x : Int} (h : 0 ≤ x ∧ x ≤ 64) : InI x := by unfold InI; omega

theorem Round_any (a a2 : Option Addr) (cap cap2 : Nat) (l : List Int) (ms : List (Int × Int)) (w : World) (hS : Ints w a cap l) (hM : Pairs w a2 cap2 ms) (hI : ∀ x ∈ l, InI x) (hms : ms.length ≤ 1048576) :
    Calls Tryz.prog 10 #[.slice a l.length cap, .slice a2 ms.length cap2] w fun r w' => RetLE w (RoundL l ms) (roundE l ms) r w' := by
  have hcap := hS.le
  have hm := hS.max
  have hmm := @run_makeMap Tryz.prog
  by_cases h : roundE l ms = 0
  · obtain ⟨hcs, _, _, _⟩ := roundE_zero h
    have hsz := (checkStand_zero hcs).1
    have hsz2 := (checkStand_zero hcs).2.1
    have hmem := (checkStand_zero hcs).2.2.1
    obtain ⟨t, ht⟩ : ∃ t, t = (replayL l ms).1 := ⟨_, rfl⟩
    have hlen : t.length = l.length := by rw [ht]; exact replayL_len l ms
    have htm : ∀ x ∈ t, 0 ≤ x ∧ x ≤ 64 := by rw [ht]; exact replayL_mem hcs
    have e1 : roundL l ms = t := by rw [roundL, if_pos h, ht]
    have e2 : RoundL l ms = permL l t l.length := by rw [RoundL, if_pos h, ht]
    have hc := round_any a a2 cap cap2 l ms w hS hM hI hms
    rw [e1, h] at hc
    rw [e2, h]
    clear e1 e2 h hcs ht
    have HC := hid hc; clear hc
    have HLEN := hid hlen; clear hlen
    have HTM := hid htm; clear htm
    have HMEM := hid hmem; clear hmem
    go_enter Tryz.func10, Tryz.ntmps10
    go_wp2_with fail
    refine HC.out.mono ?_
    intro e w1 hret
    obtain ⟨a1, cap1, rfl, hS1, hf1, hb1⟩ := hret.out
    rw [HLEN.out]
    go_wp2_with fail
    go_loopw [27, 9, 10] (fun i _ _ wr => ∃ k : Nat, k ≤ l.length ∧ i = .int .i64 k ∧ MapI wr w1.heap.size k (plc t k) ∧ Below w1.heap.size w1 wr) (fun i _ _ _ => l.length - (intOf i).toNat)
    case atStart => exact ⟨0, by omega, rfl, mapI_made w1, bal (Below.refl _ _) _⟩
    case round =>
      obtain ⟨k, hk, rfl, hmap, hbr⟩ := hrel
      have hSr := hS1.below hbr
      by_cases hlt : k < l.length
      · have hin : InI (atD 0 t k) := inI_small (HTM.out _ (atD_mem (by rw [HLEN.out]; exact hlt)))
        have hik : InI (k : Int) := by unfold InI; omega
        have hkm : k < maxLen := by unfold maxLen; omega
        have HI := hid hin; clear hin
        have HK := hid hik; clear hik
        go_wp2_with (first | (with_reducible refine wpList_idxN _ 0 E_ints F_int cInt1 (by with_unfolding_all rfl) (by with_unfolding_all rfl) (hSr) (HLEN.out) (by first | omega | (simp; done)) (by first | omega | (simp; done)) (fun _ => by with_unfolding_all rfl) (fun _ => ?_)) | ((with_reducible refine wpList_putI (by with_unfolding_all rfl) (by with_unfolding_all rfl) (by with_unfolding_all rfl) (hmap) (HI.out) (HK.out) (hkm) ?_); intro w2 hm2 hg2))
        have b2 := hbr.grown hg2 hbr.size (fun j hj => by cases hj; omega)
        refine ⟨⟨k + 1, by omega, by go_num, hm2, b2⟩, by simp [intOf]; omega⟩
      · have : k = l.length := by omega
        subst this
        go_wp2_with fail
        have hmlt := hmap.lt
        have b0 := bnext hb1 hbr
        obtain ⟨wo, hwo⟩ : ∃ wo, wo = wr := ⟨_, rfl⟩
        go_loopw [38, 11] (fun i v wq => ∃ k : Nat, k ≤ l.length ∧ i = .int .i64 k ∧ OwnI (w1.heap.size + 1) wq v (permL l t k) ∧ MapI wq w1.heap.size l.length (plc t l.length) ∧ Below w.heap.size w wq ∧ w1.heap.size < wq.heap.size) (fun i _ _ => l.length - (intOf i).toNat)
        case atStart => exact ⟨0, by omega, rfl, own_nil cIntS, hmap, b0, hmlt⟩
        case round =>
          obtain ⟨k, hk2, rfl, hO, hmq, hbq, hql⟩ := hrel
          have hSq := hS.below hbq
          have hpl := permL_len l t k
          have HPL := hid hpl; clear hpl
          have hb1s := hb1.size
          by_cases hlt2 : k < l.length
          · have hin : InI (atD 0 l k) := inI_small (HMEM.out _ (atD_mem hlt2))
            have HI := hid hin; clear hin
            have hps := permL_succ l t k
            have HPS := hid hps; clear hps
            have hple : (permL l t k).length ≤ 64 := by rw [HPL.out]; omega
            by_cases hz : atD 0 l k = 0
            · have hne : (atD 0 l k != 0) = false := by rw [hz]; rfl
              have hg : goes l t k = (k : Int) := by rw [goes, hne]; rfl
              have HG := hid hg; clear hg
              have HZ := hid hz; clear hz
              go_wp2_with (first | (with_reducible refine wpList_idx _ 0 E_ints F_int cInt1 (by with_unfolding_all rfl) (by with_unfolding_all rfl) (hSq) (by first | omega | (simp; done)) (by first | omega | (simp; done)) (fun _ => by with_unfolding_all rfl) (fun _ => ?_)) | ((with_reducible refine wpList_app (l := (permL l t k)) (ys := [(k : Int)]) E_ints (by with_unfolding_all rfl) (by with_unfolding_all rfl) ((hO).alloc _) (reps_new1 cIntS ((k : Int)) _ _ (by simp) rfl) cIntO (by simp; omega) (by first | omega | (simp; omega)) (by simp; omega) ?_); intro v3 w3 ho3 hg3 hat3))
              refine ⟨⟨k + 1, by omega, by go_num, by rw [HPS.out, HG.out]; exact ho3, (hmq.alloc (.cells #[.int .i64 k] 3)).kept hg3 (fun e => ?_), below_own' (bal hbq (.cells #[.int .i64 k] 3)) hg3 (hO.alloc _) (by omega) (by simp; omega), ?_⟩, by simp [intOf]; omega⟩
              · have := (hO.lt w1.heap.size e.symm).1; omega
              · have := hg3.size; simp at this; omega
            · have hne : (atD 0 l k != 0) = true := by simpa using hz
              have hg : goes l t k = plc t l.length (atD 0 l k) := by rw [goes, hne, if_pos rfl, HLEN.out]
              have HG := hid hg; clear hg
              go_wp2_with (first | (with_reducible refine wpList_idx _ 0 E_ints F_int cInt1 (by with_unfolding_all rfl) (by with_unfolding_all rfl) (hSq) (by first | omega | (simp; done)) (by first | omega | (simp; done)) (fun _ => by with_unfolding_all rfl) (fun _ => ?_)) | (with_reducible refine wpList_lookI (by with_unfolding_all rfl) (by with_unfolding_all rfl) (hmq) (HI.out) (by with_unfolding_all rfl) ?_) | ((with_reducible refine wpList_app (l := (permL l t k)) (ys := [(plc t l.length (atD 0 l k))]) E_ints (by with_unfolding_all rfl) (by with_unfolding_all rfl) ((hO).alloc _) (reps_new1 cIntS ((plc t l.length (atD 0 l k))) _ _ (by simp) rfl) cIntO (by simp; omega) (by first | omega | (simp; omega)) (by simp; omega) ?_); intro v3 w3 ho3 hg3 hat3))
              refine ⟨⟨k + 1, by omega, by go_num, by rw [HPS.out, HG.out]; exact ho3, (hmq.alloc (.cells #[.int .i64 (plc t l.length (atD 0 l k))] 3)).kept hg3 (fun e => ?_), below_own' (bal hbq (.cells #[.int .i64 (plc t l.length (atD 0 l k))] 3)) hg3 (hO.alloc _) (by omega) (by simp; omega), ?_⟩, by simp [intOf]; omega⟩
              · have := (hO.lt w1.heap.size e.symm).1; omega
              · have := hg3.size; simp at this; omega
          · have : k = l.length := by omega
            subst this
            go_wp2_with fail
            go_ret2
            exact RetLE.own _ rfl hO (by omega) hbq
  · have e2 : RoundL l ms = [] := by rw [RoundL, if_neg h]
    have e1 : roundL l ms = [] := by rw [roundL, if_neg h]
    have hc := round_any a a2 cap cap2 l ms w hS hM hI hms
    rw [e1] at hc
    rw [e2]
    have hne : (roundE l ms != 0) = true := by simpa using h
    have HC := hid hc; clear hc e1 e2 h
    go_enter Tryz.func10, Tryz.ntmps10
    go_wp2_with fail
    refine HC.out.mono ?_
    intro e w1 hret
    obtain ⟨a1, cap1, rfl, hS1, hf1, hb1⟩ := hret.out
    go_wp2_with fail
    go_ret2
    exact RetLE.none rfl hb1
end Go.Proofs.YtmomeggnegcheaaGreatDoor

/- Contracts: modulo, turned, Turned. Conditions: slices readable, numbers fit an int, sizes as stated. -/
namespace Go.Proofs.YtmomeggnegcheaaGreatDoor
open Go.RowKit
set_option maxHeartbeats 400000
set_option maxRecDepth 100000

theorem tmod_mod (x n : Int) (h : 0 < n) : (x.tmod n + n).tmod n = x % n := by
  have h1 := Int.emod_nonneg x (by omega : n ≠ 0)
  have h2 := Int.emod_lt_of_pos x h
  have e : x.tmod n = x % n ∨ x.tmod n = x % n - n := by
    rw [Int.tmod_eq_emod]
    split
    · left; omega
    · right; omega
  rw [Int.tmod_eq_emod_of_nonneg (by omega)]
  rcases e with e | e
  · rw [e, Int.add_emod_right, Int.emod_emod_of_dvd _ (Int.dvd_refl n)]
  · rw [e, Int.sub_add_cancel, Int.emod_emod_of_dvd _ (Int.dvd_refl n)]

theorem modulo_any (x n : Int) (w : World) (_hx : InI x) (h0 : 0 < n) (h1 : n ≤ 1048576) :
    Calls Tryz.prog 113 #[.int .i64 x, .int .i64 n] w fun r w' => r = .returned (.int .i64 (x % n)) ∧ w = w' := by
  have e : (x.tmod n + n) % n = x % n := by
    have h3 := Int.lt_tmod_of_pos x h0
    have h4 := tmod_mod x n h0
    rw [Int.tmod_eq_emod_of_nonneg (a := x.tmod n + n) (by omega)] at h4
    exact h4
  have h2 := Int.tmod_lt_of_pos x h0
  have h3 := Int.lt_tmod_of_pos x h0
  have E := hid e; clear e
  go_enter Tryz.func113, Tryz.ntmps113
  go_wp2
  go_ret
  refine ⟨?_, rfl⟩
  rw [← E.out]; rfl

/-- a stand that is turned by b slots, 0 ≤ b. -/
def turnedL (l : List Int) (b : Int) : List Int := (List.range l.length).map fun (j : Nat) => atD 0 l (((j : Int) - b) % (l.length : Int))
theorem turnedL_len (l : List Int) (b : Int) : (turnedL l b).length = l.length := by simp [turnedL]
theorem atD_turned {l : List Int} {b j : Int} (h0 : 0 ≤ j) (h1 : j < l.length) : atD 0 (turnedL l b) j = atD 0 l ((j - b) % l.length) := by
  unfold turnedL
  have : j.toNat < l.length := by omega
  rw [atD, List.getD_eq_getElem?_getD, List.getElem?_map, List.getElem?_range this]
  simp [Int.toNat_of_nonneg h0]
theorem ext_atD {l m : List Int} (h : l.length = m.length) (he : ∀ j : Int, 0 ≤ j → j < l.length → atD 0 l j = atD 0 m j) : l = m := by
  apply List.ext_getElem h
  intro i h1 h2
  have := he i (by omega) (by omega)
  simpa [atD, h1, h2] using this
theorem atD_set {l : List Int} {i j x : Int} (h0 : 0 ≤ i) (h1 : i < l.length) (hj : 0 ≤ j) : atD 0 (l.set i.toNat x) j = if j = i then x else atD 0 l j := by
  unfold atD
  rw [List.getD_eq_getElem?_getD, List.getElem?_set]
  by_cases h : j = i
  · subst h; simp [show j.toNat < l.length by omega]
  · rw [if_neg h, if_neg (by omega), List.getD_eq_getElem?_getD]
theorem emod_shift {n i j b : Int} (hi : 0 ≤ i) (hi2 : i < n) (hj : 0 ≤ j) (hj2 : j < n) : (i + b) % n = j ↔ i = (j - b) % n := by
  constructor
  · intro h
    rw [← h, Int.emod_sub_emod, Int.add_sub_cancel]; exact (Int.emod_eq_of_lt hi hi2).symm
  · intro h
    rw [h, Int.emod_add_emod]; simp; exact Int.emod_eq_of_lt hj hj2
end Go.Proofs.YtmomeggnegcheaaGreatDoor

/- Contracts: turned, Turned. Conditions: slices readable, numbers fit an int, sizes as stated. -/
namespace Go.Proofs.YtmomeggnegcheaaGreatDoor
open Go.RowKit
set_option maxHeartbeats 400000
set_option maxRecDepth 100000

theorem turned_any (x : Int) (a : Option Addr) (cap : Nat) (l : List Int) (w : World) (hS : Ints w a cap l) (hx : InI x) (h0 : 0 < l.length) (h1 : l.length ≤ 1048576) :
    Calls Tryz.prog 80 #[.slice a l.length cap, .int .i64 x] w fun r w' => ∃ v, r = .returned v ∧ OwnI w.heap.size w' v (turnedL l (x % l.length)) ∧ Below w.heap.size w w' := by
  have hcap := hS.le
  have hm := hS.max
  have hb0 := Int.emod_nonneg x (by omega : (l.length : Int) ≠ 0)
  have hb1 := Int.emod_lt_of_pos x (by omega : (0 : Int) < l.length)
  have hmod := fun w => modulo_any x l.length w hx (by omega) (by omega)
  have HM := hid hmod; clear hmod
  obtain ⟨b, hb⟩ : ∃ b, b = x % (l.length : Int) := ⟨_, rfl⟩
  rw [← hb] at hb0 hb1
  have HB := hid hb
  rw [← hb]; clear hb
  go_enter Tryz.func80, Tryz.ntmps80
  go_wp2_with ((with_reducible refine wpList_make1 (c := cInt) (B := w.heap.size) (l.length) (0) E_intsZ cInt1 (by with_unfolding_all rfl) (by with_unfolding_all rfl) (by omega) (by omega) (by first | omega | (simp; done) | (simp; omega)) ?_); intro w1 ho1 hg1)

  refine (HM.out w1).mono ?_
  rw [← HB.out]
  rintro e w' ⟨rfl, rfl⟩
  have b1 := (Below.refl w.heap.size w).grown hg1 (Nat.le_refl _) (fun _ h => by cases h)
  go_wp2_with fail
  go_loopw [17, 6, 7] (fun i _ _ wr => ∃ (k : Nat) (o : List Int), k ≤ l.length ∧ i = .int .i64 k ∧ OwnI w.heap.size wr (.slice (some ⟨w.heap.size, 0, none⟩) l.length l.length) o ∧ o.length = l.length ∧ (∀ i : Int, 0 ≤ i → i < k → atD 0 o ((i + b) % l.length) = atD 0 l i) ∧ Below w.heap.size w wr) (fun i _ _ _ => l.length - (intOf i).toNat)
  case atStart => exact ⟨0, _, by omega, rfl, ho1, by simp, fun i h0 h1 => by omega, b1⟩
  case round =>
    obtain ⟨k, o, hk, rfl, hO, hol, hinv, hbr⟩ := hrel
    have HOL := hid hol; clear hol
    have HV := hid hinv; clear hinv
    have hSr := hS.below hbr
    by_cases hlt : k < l.length
    · have q0 : 0 ≤ ((k : Int) + b) % (l.length : Int) := Int.emod_nonneg _ (by omega)
      have q1 : ((k : Int) + b) % (l.length : Int) < l.length := Int.emod_lt_of_pos _ (by omega)
      obtain ⟨q, hq⟩ : ∃ q, q = ((k : Int) + b) % (l.length : Int) := ⟨_, rfl⟩
      rw [← hq] at q0 q1
      go_wp2_with (first | (with_reducible refine wpList_idx _ 0 E_ints F_int cInt1 (by with_unfolding_all rfl) (by with_unfolding_all rfl) (hSr) (by first | omega | (simp; done)) (by first | omega | (simp; done)) (fun _ => by with_unfolding_all rfl) (fun _ => ?_)) | ((with_reducible refine wpList_storeN (c := cInt) ((atD 0 l k)) E_ints cInt1 (sto_int _) (by with_unfolding_all rfl) (by with_unfolding_all rfl) (hO) (HOL.out) (by first | omega | (simp; done) | (simp; omega)) (by first | omega | (simp; done) | (simp; omega)) (fun _ => by with_unfolding_all rfl) (fun _ => by with_unfolding_all rfl) ?_); intro _ w2 ho2 hg2))
      refine ⟨⟨k + 1, _, by omega, by go_num, ho2, by simpa using HOL.out, fun i hi0 hi1 => ?_, below_own' hbr hg2 hO (Nat.le_refl _) hbr.size⟩, by simp [intOf]; omega⟩
      have hn : (0 : Int) < l.length := by omega
      have r0 := Int.emod_nonneg (i + b) (by omega : (l.length : Int) ≠ 0)
      have r1 := Int.emod_lt_of_pos (i + b) hn
      rw [hq] at q0 q1
      rw [atD_set q0 (by rw [HOL.out]; exact q1) r0]
      by_cases e : i = k
      · subst e; simp
      · rw [if_neg, HV.out i hi0 (by omega)]
        intro e2
        have e3 := (emod_shift (b := b) (j := ((k : Int) + b) % l.length) hi0 (by omega : i < (l.length : Int)) q0 q1).1 e2
        have e4 := (emod_shift (b := b) (j := ((k : Int) + b) % l.length) (by omega : (0 : Int) ≤ k) (by omega : (k : Int) < (l.length : Int)) q0 q1).1 rfl
        exact e (e3.trans e4.symm)
    · have : k = l.length := by omega
      subst this
      have hfin : o = turnedL l b := by
        refine ext_atD (by rw [HOL.out, turnedL_len]) (fun j hj0 hj1 => ?_)
        rw [HOL.out] at hj1
        have r0 := Int.emod_nonneg (j - b) (by omega : (l.length : Int) ≠ 0)
        have r1 := Int.emod_lt_of_pos (j - b) (by omega : (0 : Int) < l.length)
        rw [atD_turned hj0 hj1, ← HV.out _ r0 r1]
        rw [Int.emod_add_emod, Int.sub_add_cancel, Int.emod_eq_of_lt hj0 hj1]
      have HF := hid hfin; clear hfin
      go_wp2_with fail
      go_ret
      exact ⟨_, rfl, by rw [← HF.out]; exact hO, hbr⟩

theorem Turned_any (x : Int) (a : Option Addr) (cap : Nat) (l : List Int) (w : World) (hS : Ints w a cap l) (hI : ∀ x ∈ l, InI x) (hx : InI x) :
    Calls Tryz.prog 29 #[.slice a l.length cap, .int .i64 x] w fun r w' => RetLE w (if checkStand l = 0 then turnedL l (x % l.length) else []) (checkStand l) r w' := by
  have hc := CheckStand_any a cap l w hS hI
  by_cases h : checkStand l = 0
  · have hsz := (checkStand_zero h).1
    have hsz2 := (checkStand_zero h).2.1
    rw [if_pos h, h]
    rw [h] at hc
    have HC := hid hc; clear hc h
    go_enter Tryz.func29, Tryz.ntmps29
    go_wp2_with fail
    refine HC.out.mono ?_
    rintro e w1 ⟨rfl, hb1⟩
    go_wp2_with fail
    refine (turned_any x a cap l w1 (hS.below hb1) hx (by omega) (by omega)).mono ?_
    rintro e w2 ⟨v2, rfl, ho2, hb2⟩
    go_wp2_with fail
    go_ret2
    exact RetLE.own _ rfl ho2 hb1.size (bnext hb1 hb2)
  · rw [if_neg h]
    have hne : (checkStand l != 0) = true := by simpa using h
    have HC := hid hc; clear hc h
    go_enter Tryz.func29, Tryz.ntmps29
    go_wp2_with fail
    refine HC.out.mono ?_
    rintro e w1 ⟨rfl, hb1⟩
    go_wp2_with fail
    go_ret2
    exact RetLE.none rfl hb1
end Go.Proofs.YtmomeggnegcheaaGreatDoor
