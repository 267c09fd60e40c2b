/- Contracts and plain facts that the claim uses (TkA TkP Ts1 Ts). Conditions: as each one states. -/
import Derived.Test.YtglpfpdomnllkaaGreatProg
import Derived.WalkKit
import Derived.WalkSpells
import Derived.Maps.AppendAt
import Derived.Deep.Quiet
import Derived.Maps.Own
import Derived.Maps.OwnSet
import Derived.Maps.Views
import Derived.WalkLawsBesides
import Derived.Laws.EntriesVeiled
import Derived.Deep.QuietTactic
import Derived.BigQuiet
import Derived.Deep.RegionHeld3
import Derived.Deep.AppendLies
import Derived.Deep.RegionHeldLaw
import Derived.Deep.RegionLaw
import Derived.RangeFuncNested
import Derived.RangeFuncBound
import Derived.RangeFuncCalls
import Derived.RangeFuncLeaves
import Derived.RangeFuncFrom
import Derived.Shelf.Abstract
import Derived.Shelf.RegionOpen
import Derived.OwnWalkIn
import Derived.TacticsInMore
import Derived.LoopNIn
import Derived.LoopIn
import Derived.Shelf.Strings.Trim
import Derived.Shelf.Strings.SlTrimAscii
import Derived.Shelf.Strings.Repeat
import Derived.Shelf.Strings.OnBuilder
import Derived.Shelf.Strconv.Itoa1
import Derived.Shelf.Strconv.Itoa3
import Derived.Shelf.LaysM
import Derived.Ground.Names2Prog
import Derived.Lib.OthersKept
import Derived.StillTail
import Derived.Laws.Tables
import Derived.IntWalk
import Derived.Laws.CopyOwn
import Derived.BigRegion
import Derived.ChangeAlike
import Derived.Shelf.Bits.Mul64
import Derived.Lib.ItoaLen
import Derived.Lib.ItoaMem
import Derived.Sort.LoopGhostIn
import Derived.Maps.RangeWalk
import Derived.Maps.Ext
import Derived.Sort.QuietThIn
import Derived.Deep.LoopGhost
import Derived.Lib.Split
import Derived.Lib.AtoiAll
import Derived.Lib.AppendIntMem
import Derived.Lib.SmallJoins
import Derived.LaidSub
import Derived.Lib.LaidTab
import Derived.Lib.AtoiErrMem
import Derived.Stop.LaidErr
import Derived.ReadAgain
import Derived.ChangeSlices
import Derived.OpenShut
import Derived.ProofKit
import Derived.Deep.DeepHandedRow
import Derived.Deep.SlicePairs
import Derived.Laws.IdiomStrings
import Derived.Test.YtglpfpdomnllkaaGreatXt01
import Derived.Test.YtglpfpdomnllkaaGreatXt02
import Derived.Test.YtglpfpdomnllkaaGreatXt03
import Derived.Test.YtglpfpdomnllkaaGreatXt04
import Derived.Test.YtglpfpdomnllkaaGreatXt05
import Derived.Test.YtglpfpdomnllkaaGreatXt06
import Derived.Test.YtglpfpdomnllkaaGreatXt07
import Derived.Test.YtglpfpdomnllkaaGreatY7901
import Derived.Test.YtglpfpdomnllkaaGreatY7902
import Derived.Test.YtglpfpdomnllkaaGreatY7903
import Derived.Test.YtglpfpdomnllkaaGreatY7904
import Derived.Test.YtglpfpdomnllkaaGreatY7905
import Derived.Test.YtglpfpdomnllkaaGreatY7906
import Derived.Test.YtglpfpdomnllkaaGreatY7907
import Derived.Test.YtglpfpdomnllkaaGreatY7908
import Derived.Test.YtglpfpdomnllkaaGreatY7909
import Derived.Test.YtglpfpdomnllkaaGreatY7910
set_option linter.all false

namespace Go.Proofs.YtglpfpdomnllkaaGreat
open Go.RowKit
set_option maxHeartbeats 8000000
set_option maxRecDepth 100000
/-- all of the first list lie in the second one, which is as long. -/
def allIn (a b : List Int) : Bool := decide ((∀ x ∈ a, x ∈ b) ∧ a.length = b.length)
theorem tsame_any (a1 a2 : Option Addr) (c1 c2 : Nat) (a b : List Int) (w : World) (hA : Ints w a1 c1 a) (hB : Ints w a2 c2 b) (hal : a.length ≤ 1000) (hbl : b.length ≤ 1000) :
  Calls Tryz.prog 20 #[.slice a1 a.length c1, .slice a2 b.length c2] w fun r w' => r = .returned (.bool (allIn a b)) ∧ w = w' := by
 have cm := hA.le
 have cm2 := hB.le
 obtain ⟨R, hR⟩ : ∃ R, R = allIn a b := ⟨_, rfl⟩
 rw [← hR]
 have HR := hid hR
 clear hR
 go_enter Tryz.func20, Tryz.ntmps20
 go_wp2_with fail
 go_loop [12] (fun iv => ∃ k : Nat, k ≤ a.length ∧ iv = .int .i64 k ∧ Hid (∀ i : Nat, i < k → atD 0 a i ∈ b)) (fun iv => a.length - (intOf iv).toNat)
 case atStart => exact ⟨0, by omega, rfl, hid fun i hi => by omega⟩
 case round =>
  obtain ⟨k, hk, rfl, hin⟩ := hrel
  by_cases hlt : k < a.length
  ·obtain ⟨x, hx⟩ : ∃ x, x = atD 0 a k := ⟨_, rfl⟩
   have HX := hid hx
   have HIN := hin
   clear hx hin
   go_wp2_with ((with_reducible refine wpList_idx _ 0 E_ints F_int cInt1 wU wU (hA) oD oD (fun _ => wU) (fun _ => ?_)); rw [← HX.out])
   go_loop [18, 7] (fun jv hv => ∃ q : Nat, q ≤ b.length ∧ jv = .int .i64 q ∧ hv = .bool (decide (x ∈ b.take q))) (fun jv _ => b.length - (intOf jv).toNat)
   case atStart => exact ⟨0, by omega, rfl, by simp⟩
   case round =>
    obtain ⟨q, hq, rfl, rfl⟩ := hrel
    by_cases hqt : q < b.length
    ·obtain ⟨y, hy⟩ : ∃ y, y = atD 0 b q := ⟨_, rfl⟩
     have hnx : decide (x ∈ b.take (q + 1)) = (decide (x ∈ b.take q) || (x == y)) := by
      rw [List.take_succ_eq_append_getElem hqt]
      have e : b[q] = y := by rw [hy]; simp [atD, hqt]
      rw [e, Bool.eq_iff_iff]
      simp
     have HY := hid hy; have HNX := hid hnx
     clear hy hnx
     cases hd : decide (x ∈ b.take q) with
     | true =>
      have HD := hid hd
      clear hd
      go_wp2_with ((with_reducible refine wpList_idx _ 0 E_ints F_int cInt1 wU wU (hB) oD oD (fun _ => wU) (fun _ => ?_)); rw [← HY.out])
      exact ⟨⟨q + 1, by omega, by go_num, by rw [HNX.out, HD.out]; rfl⟩, by simp [intOf]; omega⟩
     | false =>
      have HD := hid hd
      clear hd
      go_wp2_with ((with_reducible refine wpList_idx _ 0 E_ints F_int cInt1 wU wU (hB) oD oD (fun _ => wU) (fun _ => ?_)); rw [← HY.out])
      exact ⟨⟨q + 1, by omega, by go_num, by rw [HNX.out, HD.out]; rfl⟩, by simp [intOf]; omega⟩
    ·have hqb : q = b.length := by omega
     have e1 : b.take q = b := by rw [hqb, List.take_length]
     rw [e1]
     have hqn : ¬ ((q : Int) < (b.length : Int)) := by omega
     clear hqb e1 hqt hq
     by_cases hm : x ∈ b
     ·have dm : decide (x ∈ b) = true := decide_eq_true hm
      have HM := hid hm
      clear hm
      go_wp2_with fail
      refine ⟨⟨k + 1, by omega, by go_num, hid fun i hi => ?_⟩, by simp [intOf]; omega⟩
      by_cases e : i = k
      ·rw [e, ← HX.out]; exact HM.out
      ·exact HIN.out i (by omega)
     ·have dm : decide (x ∈ b) = false := decide_eq_false hm
      have hRf : R = false := by
       rw [HR.out]
       exact decide_eq_false fun h => hm (by rw [HX.out]; exact h.1 _ (atD_mem hlt))
      have HRF := hid hRf
      clear hm hRf
      go_wp2_with fail
      go_ret
      exact ⟨by rw [HRF.out]; rfl, rfl⟩
  ·have hkk : k = a.length := by omega
   have hRt : R = decide ((a.length : Int) = (b.length : Int)) := by
    rw [HR.out]
    unfold allIn
    rw [Bool.eq_iff_iff]
    simp only [decide_eq_true_eq]
    refine ⟨fun h => by rw [h.2], fun h => ⟨fun y hy => ?_, by omega⟩⟩
    obtain ⟨i, hi, rfl⟩ := List.getElem_of_mem hy
    have := hin.out i (by omega)
    rwa [show atD 0 a (i : Int) = a[i] by simp [atD, hi]] at this
   have HRT := hid hRt
   have hkn : ¬ ((k : Int) < (a.length : Int)) := by omega
   clear hRt hkk hlt hk hin
   cases hd : ((a.length : Int) == (b.length : Int)) with
   | true =>
    have hd2 : R = true := by rw [HRT.out]; simpa using hd
    have HD2 := hid hd2
    clear hd2
    go_wp2_with fail
    go_ret
    exact ⟨by rw [HD2.out]; first | rfl | (simp; done) | (congr 2), rfl⟩
   | false =>
    have hd2 : R = false := by rw [HRT.out]; simpa using hd
    have HD2 := hid hd2
    clear hd2
    go_wp2_with fail
    go_ret
    exact ⟨by rw [HD2.out]; first | rfl | (simp; done) | (congr 2), rfl⟩
end Go.Proofs.YtglpfpdomnllkaaGreat

namespace Go.Proofs.YtglpfpdomnllkaaGreat
set_option maxRecDepth 100000
theorem nodup_sub : ∀ {a b : List Int}, a.Nodup → (∀ x ∈ a, x ∈ b) → a.length ≤ b.length
 | [], _, _, _ => Nat.zero_le _
 | x :: a, b, hn, h => by
   have hx := h x (by simp)
   have hn' := List.nodup_cons.1 hn
   have h2 := nodup_sub (b := b.erase x) hn'.2 (fun y hy => by
     have hy2 := h y (by simp [hy])
     exact (List.mem_erase_of_ne (fun (e : y = x) => hn'.1 (by rw [← e]; exact hy))).2 hy2)
   have h3 := List.length_erase_of_mem hx
   have h4 := List.length_pos_of_mem hx
   rw [List.length_cons]
   omega
section
variable {m : MacV} {l C : List Int} {N : Nat}
theorem over_all (hr : m.ring = false) (h : LoadOk m l) (hm : meetsM m l N = false) : ∀ j : Nat, j ≤ N → overTo m C l j = (seenL l.length (wvM m l j).2).map (atD 0 ((orderM m l).map (atD 0 C)))
 | 0, _ => rfl
 | j + 1, hj => by
   have hlo := h.ok.lo
   have e : (orderM m l).length = l.length := orderM_length (by omega) h.rng h.nodup
   have ih := over_all hr h hm j (by omega)
   have key : ∀ i : Nat, i ≤ (crossM m (atL m l j)).length → overAt m C l j i = (seenL l.length (stC m l j i).2).map (atD 0 ((orderM m l).map (atD 0 C))) := by
     intro i
     induction i with
     | zero => intro _; rw [overAt_zero, ih]; rfl
     | succ i ih2 =>
       intro hi
       obtain ⟨y, h1, ⟨h2, h3⟩, h4⟩ := over_seen hr h hm (j := j) (i := i) (by omega) (by omega)
       rw [overAt_succ m C l j i (by omega), ih2 (by omega), h1, List.map_append, h4]
       congr 1
       obtain ⟨q, rfl⟩ : ∃ q : Nat, y = q := ⟨y.toNat, by omega⟩
       rw [List.map_cons, List.map_nil, atD_map2 (by omega)]
   have h5 := key _ (Nat.le_refl _)
   rw [overAt_last, stC_last] at h5
   exact h5
theorem paint_zero (S F C : List Int) (hs : ∀ x ∈ S, 0 ≤ x ∧ x < F.length) : paintAt S F C 0 = S.map (atD 0 C) := by
 unfold paintAt rowAt
 rw [powP_zero F.length F rfl, List.map_map]
 refine List.map_congr_left fun x hx => ?_
 obtain ⟨h0, h1⟩ := hs x hx
 show atD 0 C (atD 0 (idL F.length) x) = _
 rw [idL_at h0 h1]
theorem paint_one {S F : List Int} (C : List Int) (hp : IsP F) (hs : ∀ x ∈ S, 0 ≤ x ∧ x < F.length) : paintAt S F C 1 = S.map fun x => atD 0 C (atD 0 F x) := by
 unfold paintAt rowAt
 rw [List.map_map]
 refine List.map_congr_left fun x hx => ?_
 obtain ⟨h0, h1⟩ := hs x hx
 show atD 0 C (atD 0 (powP F 1) x) = _
 rw [powP_at h0 h1]
 rfl
/-- the first row. -/
theorem shown_one (hr : m.ring = false) (h : LoadOk m l) (hm : meetsM m l N = false) : overTo m C l N = paintAt (seenL l.length (wrdL m l N)) (row5 (idL l.length) (wrdL m l N)) ((orderM m l).map (atD 0 C)) 0 := by
 have hR := wrd_rng hr h hm
 have hv := row5_VP hR
 rw [paint_zero _ _ _ (fun x hx => by rw [hv.2]; exact seen_rng _ _ (idL_VP _) hR x hx)]
 exact over_all hr h hm N (Nat.le_refl _)
/-- the second row, where the carriers stand in the same slots again. -/
theorem shown_two (hr : m.ring = false) (h : LoadOk m l) (hm : meetsM m l ((N + N : Nat) : Int) = false) (hin : allIn l (atL m l N) = true) : overTo m C (atL m l N) N = paintAt (seenL l.length (wrdL m l N)) (row5 (idL l.length) (wrdL m l N)) ((orderM m l).map (atD 0 C)) 1 := by
 have hlo := h.ok.lo
 have e : (orderM m l).length = l.length := orderM_length (by omega) h.rng h.nodup
 have hm1 : meetsM m l (N : Int) = false := by have := meets_later h (a := 0) (b := N) hm (by omega); rwa [atL_zero] at this
 have hm2 : meetsM m (atL m l N) (N : Int) = false := meets_later h hm (by omega)
 have h' := loadE_zero (atL_load h N)
 have hR := wrd_rng hr h hm1
 have hv := row5_VP hR
 have hsr : ∀ x ∈ seenL l.length (wrdL m l N), 0 ≤ x ∧ x < l.length := seen_rng _ _ (idL_VP _) hR
 obtain ⟨hin1, hlen⟩ := of_decide_eq_true hin
 have hback : ∀ s, s ∈ atL m l N → s ∈ l := by
  intro s hs
  apply Classical.byContradiction
  intro hns
  have hnd := h.nodup
  have hsub : (s :: l).Nodup := List.nodup_cons.2 ⟨hns, hnd⟩
  have hle : (s :: l).length ≤ (atL m l N).length := nodup_sub hsub (fun x hx => by
   rcases List.mem_cons.1 hx with rfl | hx
   ·exact hs
   ·exact hin1 x hx)
  rw [List.length_cons, atL_len] at hle
  omega
 obtain ⟨τ, hT⟩ := ren_of h.nodup (atL_len m l N) hin1 hback
 have hw : (wvM m (atL m l N) N).2 = (wvM m l N).2 := hT.word hr h h' hm1 hm2 N (by omega)
 rw [over_all hr h' hm2 N (Nat.le_refl _), hw, atL_len, paint_one _ hv.1 (fun x hx => by rw [hv.2]; exact hsr x hx)]
 have hrow := wvM_row hr h.rng hm1 N (Int.le_refl _)
 have ha := (rowIs_wv hr h hm1 N (by omega)).1
 rw [hrow] at ha
 have ha : orderM m (atL m l N) = (row5 (idL l.length) (wrdL m l N)).map (atD 0 (orderM m l)) := ha
 refine List.map_congr_left fun x hx => ?_
 obtain ⟨h0, h1⟩ := hsr x hx
 have hq := hv.rg h0 h1
 rw [ha]
 obtain ⟨i, rfl⟩ : ∃ i : Nat, x = i := ⟨x.toNat, by omega⟩
 obtain ⟨q, hqe⟩ : ∃ q : Nat, atD 0 (row5 (idL l.length) (wrdL m l N)) (i : Int) = q := ⟨(atD 0 (row5 (idL l.length) (wrdL m l N)) (i : Int)).toNat, by omega⟩
 rw [atD_map2 (by rw [List.length_map, hv.2]; omega), atD_map2 (by rw [hv.2]; omega), hqe, atD_map2 (by omega)]
end
end Go.Proofs.YtglpfpdomnllkaaGreat

namespace Go.Proofs.YtglpfpdomnllkaaGreat
open Go.RowKit
set_option maxHeartbeats 8000000
set_option maxRecDepth 100000
theorem paint_two (k : Nat) (ad a3 : Option Addr) (cap c3 : Nat) (l C : List Int) (w : World) (hL : Ints w ad cap l) (hC : Ints w a3 c3 C) (h : SchOk (k : Int) l) (h2 : PlcOk (k : Int) C) :
  Calls Tryz.prog 17 #[.int .i64 k, .slice ad l.length cap, .slice a3 C.length c3, .int .i64 2] w fun r w' => ∃ a c xa xc ya yc, r = .returned (.tuple #[.slice a 2 c, .int .i64 0]) ∧ Reps cSl 1 w' a c [(xa, l.length, xc), (ya, l.length, yc)] ∧ Ints w' xa xc (paintAt (seenL k l) (row5 (idL k) l) C 0) ∧ Ints w' ya yc (paintAt (seenL k l) (row5 (idL k) l) C 1) ∧ Below w.heap.size w w' := by
 refine (Paint_any k 2 ad a3 cap c3 l C w hL hC h h2 (by decide) (by decide)).mono ?_
 rintro r w' ⟨v, qs, rfl, hq, hS⟩
 have e1 : (List.range 2).map (paintAt (seenL k l) (row5 (idL k) l) C) = [paintAt (seenL k l) (row5 (idL k) l) C 0, paintAt (seenL k l) (row5 (idL k) l) C 1] := rfl
 have hl : ∀ r, (paintAt (seenL k l) (row5 (idL k) l) C r).length = l.length := fun r => by rw [paintAt_len]; unfold seenL; rw [seenGo_len]
 rw [e1] at hq
 rcases qs with _ | ⟨⟨⟨x1, x2, x3⟩, X⟩, _ | ⟨⟨⟨y1, y2, y3⟩, Y⟩, _ | ⟨z, qs⟩⟩⟩
 ·cases hq
 ·simp at hq
 ·simp only [List.map_cons, List.map_nil, List.cons.injEq, and_true] at hq
  obtain ⟨rfl, rfl⟩ := hq
  obtain ⟨a, c, rfl, hR⟩ := hS.slice 0 rfl
  obtain ⟨xa, xc, e2, hX⟩ := hS.slice 1 rfl
  obtain ⟨ya, yc, e3, hY⟩ := hS.slice 2 rfl
  simp only [cSl, Value.slice.injEq] at e2 e3
  obtain ⟨rfl, rfl, rfl⟩ := e2
  obtain ⟨rfl, rfl, rfl⟩ := e3
  simp only [List.map_cons, List.map_nil, hl] at hR
  exact ⟨a, c, _, _, _, _, rfl, hR, hX, hY, hS.b⟩
 ·simp at hq
theorem rng_scheme {k : Nat} {w : List Int} (h1 : 2 ≤ k) (h2 : k ≤ 6) (hw1 : 0 < w.length) (hw2 : w.length ≤ 24) (h : LetRng k w) : SchOk (k : Int) w := by
 refine ⟨by omega, by omega, hw1, hw2, List.any_eq_false.2 fun x hx => ?_, by simpa using h⟩
 obtain ⟨a, b⟩ := h x hx
 unfold absI at a b
 have e1 : ¬ x = 0 := by split at a <;> omega
 have e2 : ¬ x ≤ -(k : Int) := by split at b <;> omega
 have e3 : ¬ (k : Int) ≤ x := by split at b <;> omega
 unfold outB
 simp [e1, e2, e3]
theorem A_wov : Aggr Tryz.prog 26 := ⟨_, Tryz.underlying26, rfl⟩
theorem ts_main (m : MacV) (ad al ac : Option Addr) (cap cl cc : Nat) (l C : List Int) (n : Int) (w : World) (hR : Ints w ad cap m.sw) (hL : Ints w al cl l) (hC : Ints w ac cc C) (hI : InI m.gears) (c1 : (decide (m.sw.length ≤ 19) && decide (l.length ≤ 67)) = true) (c2 : macE m = 0) (c3 : ¬ 5 < m.gears) (c4 : m.ring = false) (c5 : loadE m l = 0) (c6 : ¬ (l.length : Int) < 2) (c7 : ¬ 6 < (l.length : Int)) (c8 : ¬ n < 1) (c9 : ¬ 16 < n) (c10 : ¬ 30 < (C.length : Int)) (c11 : placeE (l.length : Int) C = 0) (c12 : meetsM m l (2 * n) = false) :
  Calls Tryz.prog 3 #[.agg (wC m ad cap al l cl ac C cc n)] w fun r w' => r = .returned (.bool true) ∧ Below w.heap.size w w' := by
 obtain ⟨N, rfl⟩ : ∃ N : Nat, n = N := ⟨n.toNat, by omega⟩
 have CSh := fun w => rShort_any m ad cap al cl l.length w
 rw [c1] at CSh
 have HSh := hid CSh
 clear CSh
 have CM := fun w h => rCheckMachine_any m ad cap w h
 rw [c2] at CM
 have HM := hid CM
 clear CM
 have d3 : decide (5 < m.gears) = false := decide_eq_false c3
 have HRG := hid c4
 have CL := fun w h => rCheckLoad_any m ad cap al cl l w h (macE_zero c2).1.lo (macE_zero c2).1.hi
 rw [load_chk c2] at CL
 rw [c5] at CL
 have HL := hid CL
 clear CL
 have d6 : decide ((l.length : Int) < 2) = false := decide_eq_false c6
 have d7 : decide (6 < (l.length : Int)) = false := decide_eq_false c7
 have d8 : decide ((N : Int) < 1) = false := decide_eq_false c8
 have d9 : decide (16 < (N : Int)) = false := decide_eq_false c9
 have d10 : decide (30 < (C.length : Int)) = false := decide_eq_false c10
 have CP := fun w h => rCheckPlacing_any (l.length : Int) ac cc C w h
 rw [c11] at CP
 have HP := hid CP
 clear CP
 have CE := fun w h h2 => rMeets_any m ad cap al cl l (2 * (N : Int)) w h h2 (macE_zero c2).1.lo (macE_zero c2).1.hi (loadE_zero c5).rng (by omega) (loadE_zero c5).nodup
 have hw2 : IntKind.i64.wrap (2 * (N : Int)) = 2 * (N : Int) := IntWalk.i64_in _ (by omega)
 rw [c12] at CE
 have HE := hid CE
 clear CE
 have hs : m.sw.length ≤ 19 ∧ l.length ≤ 67 := by simpa using c1
 have hf : Fits m l 6 6 := ⟨hs, by omega, by omega, c5⟩
 have hlk := loadE_zero c5
 have hN : N ≤ 16 := by omega
 have hm2 : meetsM m l ((N + N : Nat) : Int) = false := by rw [show ((N + N : Nat) : Int) = 2 * (N : Int) by omega]; exact c12
 have hm1 : meetsM m l (N : Int) = false := by have := meets_later hlk (a := 0) (b := N) hm2 (by omega); rwa [atL_zero] at this
 have hmL : meetsM m (atL m l N) (N : Int) = false := meets_later hlk hm2 (by omega)
 have W9 := wv_ok hf c4 (A := N / 2) (B := N - N / 2) (N := N) (by omega) (by omega) (by omega) hm1
 have hWR : LetRng l.length (wrdL m l N) := wrd_rng c4 hlk hm1
 have hWE : wordE ((l.length : Nat) : Int) (wrdL m l N) = 0 := wordE_fit (by omega) (by omega) (by have := W9.wS; omega) hWR
 have hPl := place_zero c11
 have hcl : C.length = l.length := by have := hPl.len; omega
 have KL : ∀ (a : Option Addr) (c : Nat) (q : List Int), ChkL m ad cap a c q := fun a c q => CheckLoad_any m ad cap a c q fun w h => CheckMachine_any m ad cap w h hI
 have CO : ∀ w, Ints w ad cap m.sw → Ints w al cl l → Calls Tryz.prog 14 #[mV m ad cap, .slice al l.length cl] w fun r w' => ∃ v, r = .returned (.tuple #[v, .int .i64 0]) ∧ OwnI w.heap.size w' v (orderM m l) ∧ Below w.heap.size w w' := by
  intro w h h2; have h3 := mOrder_any m ad cap al cl l w h h2 (KL _ _ _); have e := W9.ordE 0 (by omega); rw [atL_zero] at e; rw [e, if_pos rfl] at h3; exact h3
 have CW : ∀ w, Ints w ad cap m.sw → Ints w al cl l → Calls Tryz.prog 13 #[mV m ad cap, .slice al l.length cl, .int .i64 N] w fun r w' => ∃ v, r = .returned (.tuple #[v, .int .i64 0]) ∧ OwnI w.heap.size w' v (wrdL m l N) ∧ Below w.heap.size w w' := by
  intro w h h2; have h3 := mWord_any m ad cap al cl l N w h h2 (KL _ _ _); rw [W9.wN, if_pos rfl] at h3; exact h3
 have CCW := fun (a : Option Addr) (c : Nat) w (h : Ints w a c (wrdL m l N)) => rCheckWord_any (l.length : Int) a c (wrdL m l N) w h
 rw [hWE] at CCW
 have CCP := fun a c w h => rCheckPerm_any a c (orderM m l) w h W9.ip (by rw [W9.olen]; omega)
 have hol := W9.olen
 have hort : ∀ i : Nat, i < (orderM m l).length → (0 ≤ atD 0 (orderM m l) i ∧ atD 0 (orderM m l) i < C.length) ∧ ((orderM m l).map (atD 0 C)).take (i + 1) = ((orderM m l).map (atD 0 C)).take i ++ [atD 0 C (atD 0 (orderM m l) i)] := fun i hi => by
  have h1 := W9.ip.rng (i : Int) (by omega) (by omega)
  refine ⟨by omega, ?_⟩
  rw [List.take_succ_eq_append_getElem (by rw [List.length_map]; exact hi)]
  congr 2
  rw [List.getElem_map]
  simp [atD, hi]
 have hpc : PlcOk (l.length : Int) ((orderM m l).map (atD 0 C)) := by
  have hr : ∀ x ∈ (orderM m l).map (atD 0 C), 0 ≤ x ∧ x ≤ 7 := fun x hx => by
   obtain ⟨y, hy, rfl⟩ := List.mem_map.1 hx
   have hy2 := isP_mem W9.ip y hy
   have : atD 0 C y ∈ C := by
    obtain ⟨q, rfl⟩ : ∃ q : Nat, y = q := ⟨y.toNat, by omega⟩
    exact atD_mem (by omega)
   exact hPl.rng _ this
  refine ⟨hPl.lo, hPl.hi, by rw [List.length_map, hol], List.any_eq_false.2 fun x hx => ?_, hr⟩
  obtain ⟨a, b⟩ := hr x hx
  unfold colB
  simp
  omega
 have hsc : 0 < (wrdL m l N).length → (wrdL m l N).length ≤ 24 → SchOk ((l.length : Nat) : Int) (wrdL m l N) := fun a b => rng_scheme (by omega) (by omega) a b hWR
 have s1 := shown_one (C := C) c4 hlk hm1
 have s2 := fun h => shown_two (C := C) c4 hlk hm2 h
 have CPT := fun (a1 a3 : Option Addr) (c1 c3 : Nat) w h h2 h3 h4 => paint_two l.length a1 a3 c1 c3 (wrdL m l N) ((orderM m l).map (atD 0 C)) w h h2 (hsc h3 h4) hpc
 have hpl : ∀ r, (paintAt (seenL l.length (wrdL m l N)) (row5 (idL l.length) (wrdL m l N)) ((orderM m l).map (atD 0 C)) r).length = (wrdL m l N).length := fun r => by rw [paintAt_len]; unfold seenL; rw [seenGo_len]
 have hfl : Fits m (atL m l N) 6 6 := ⟨by rw [atL_len]; exact hs, hf.2.1, by rw [atL_len]; exact hf.2.2.1, atL_load hlk N⟩
 have CV1 := fun w h h2 h3 => tover_any m ad al ac al cap cl cc cl l C l N w h h2 h3 hI hf c4 (by omega) (by omega) hm1 hcl
 have CV2 := fun (a : Option Addr) (c : Nat) w h h2 h3 => tover_any m ad al ac a cap cl cc c l C (atL m l N) N w h h2 h3 hI hfl c4 (by rw [atL_len]; omega) (by omega) hmL (by rw [atL_len]; exact hcl)
 rw [s1] at CV1
 have CSM := fun (a : Option Addr) (c : Nat) w h h2 => tsame_any al a cl c l (atL m l N) w h h2 (by omega) (by rw [atL_len]; omega)
 rw [atL_len] at CSM CV2
 have hal : (atL m l N).length = l.length := atL_len m l N
 have hwl := W9.wS
 obtain ⟨OM, hOM⟩ : ∃ OM, OM = orderM m l := ⟨_, rfl⟩
 rw [← hOM] at CO CCP hol hort CPT s2 CV1 hpl
 obtain ⟨WL, hWL⟩ : ∃ WL, WL = wrdL m l N := ⟨_, rfl⟩
 rw [← hWL] at CW CCW hwl CPT s2 CV1 hpl
 obtain ⟨CL, hCL⟩ : ∃ CL, CL = OM.map (atD 0 C) := ⟨_, rfl⟩
 have hcll : CL.length = OM.length := by rw [hCL, List.length_map]
 rw [← hCL] at hort CPT s2 CV1 hpl
 obtain ⟨PA, hPA⟩ : ∃ PA, PA = paintAt (seenL l.length WL) (row5 (idL l.length) WL) CL := ⟨_, rfl⟩
 rw [← hPA] at CPT s2 CV1 hpl
 obtain ⟨P0, hP0⟩ : ∃ P0, P0 = PA 0 := ⟨_, rfl⟩
 obtain ⟨P1, hP1⟩ : ∃ P1, P1 = PA 1 := ⟨_, rfl⟩
 have hp0 := hpl 0
 have hp1 := hpl 1
 rw [← hP0] at CPT CV1 hp0
 rw [← hP1] at CPT s2 hp1
 obtain ⟨NL, hNL⟩ : ∃ NL, NL = atL m l N := ⟨_, rfl⟩
 rw [← hNL] at CV1 CV2 CSM s2 hal
 have HMO := hid CO; have HMW := hid CW; have HCW := hid CCW; have HCP := hid CCP; have HPT := hid CPT; have HV1 := hid CV1; have HV2 := hid CV2; have HSM := hid CSM; have HS2 := hid s2
 have HOL := hid hol; have HOR := hid hort; have HCL := hid hcll; have HP0 := hid hp0; have HP1 := hid hp1; have HAL := hid hal; have HCC := hid hcl
 have dO : ((OM.length : Int) != (l.length : Int)) = false := by simp [hol]
 have hom6 : OM.length ≤ 6 := by rw [hol]; omega
 clear CO CW CCW CCP CPT CV1 CV2 CSM s1 s2 hol hort hcll hp0 hp1 hpl hal hcl hOM hWL hCL hPA hP0 hP1 hNL hfl hsc hpc hPl hWE hWR W9 KL hm1 hm2 hmL hlk hf hs hI c1 c2 c3 c4 c5 c7 c8 c9 c10 c11 c12
 have hb0 := bal (Below.refl w.heap.size w) (.cells (wC m ad cap al l cl ac C cc N) 26)
 have q0 := heap_alloc_new w (.cells (wC m ad cap al l cl ac C cc N) 26)
 have HTS := hid thimbleShows_any
 have hlc := hL.le
 have hlm := hL.max
 have hcc := hC.le
 have hcm := hC.max
 obtain ⟨B0, hB0⟩ : ∃ B, B = w.heap.size := ⟨_, rfl⟩
 obtain ⟨w0, hw0⟩ : ∃ w0, w0 = w.alloc (.cells (wC m ad cap al l cl ac C cc N) 26) := ⟨_, rfl⟩
 rw [← hw0] at hb0 q0
 rw [← hB0] at q0
 go_enter Tryz.func3, Tryz.ntmps3
 go_wp2_with fail
 rw [← hB0, ← hw0]
 clear hB0 hw0
 have hlt0 : B0 < w0.heap.size := (Array.getElem?_eq_some_iff.1 q0).1
 have hc4 : w0.cell? ⟨B0, 4, none⟩ = some (.slice al l.length cl) := by simp [World.cell?, q0, wC]
 refine wp_regionK (C := Below (w0).heap.size (w0)) [0, 1, 2, 3, 4, 5, 6] [_, _, _, _, _, _, _] 4 (by simp only [List.map_cons, List.map_nil, List.getElem?_toArray]; rfl) rfl kR kR kR ((Below.refl _ _).drew) ?_
 refine ⟨_, yieldsK_val wU (fun w' => by with_unfolding_all exact rfl), ?_⟩
 go_frame
 refine ⟨.agg (mC m ad cap), yieldsK_blkO (n := 4) (cs := wC m ad cap al l cl ac C cc N) A_mach kR (fun V h => (h.block _ hlt0).trans q0) rfl rfl wU wU, ?_⟩
 go_frame
 refine ⟨_, yieldsK_val wU (fun w' => by with_unfolding_all exact rfl), ?_⟩
 go_frame
 refine ⟨_, yieldsK_cell F_sl (hc4) wU wU, ?_⟩
 go_frame
 refine ⟨_, yieldsK_val wU (fun w' => by with_unfolding_all exact rfl), ?_⟩
 go_frame
 refine ⟨_, yieldsK_cell F_sl (hc4) wU wU, ?_⟩
 go_frame
 refine ⟨.int .i64 l.length, yieldsK_val wU (fun w' => by first | (go_simp; done) | (go_simp; rfl)), ?_⟩
 go_frame
 unfold wpPureK
 have hVd : ({ w0 with drawn := w0.drawn + 1 } : World) = w0.drew := rfl
 rw [hVd]
 have hb5 : Below w0.heap.size w0 w0.drew := (Below.refl _ _).drew
 obtain ⟨w1, hw1⟩ : ∃ w1, w1 = w0.drew := ⟨_, rfl⟩
 rw [← hw1] at hb5 ⊢
 clear hVd hw1
 have hSz := (SL.nil w1).box (.cells #[.bool false, .int .i64 0, .int .i64 0, .slice none 0 0] 24)
 refine wpAnyC_on [7] kR (by simp) ?_
 simp only [List.forall_mem_cons, List.not_mem_nil, false_implies, implies_true, and_true]
 refine wpOp_value (v := .pointer (some ⟨w1.heap.size, 0, none⟩)) (w' := w1.alloc (.cells #[.bool false, .int .i64 0, .int .i64 0, .slice none 0 0] 24)) (by rw [List.getElem?_toArray]; rfl) wU (by first | (go_simp; done) | (go_simp; rfl) | (simp [execOp, Act.eval, Result.andThen]; done)) ?_
 refine ⟨bal hb5 _, ?_⟩
 go_frame
 refine wpAnyC_on [8] kR (by simp) ?_
 simp only [List.forall_mem_cons, List.not_mem_nil, false_implies, implies_true, and_true]
 refine wpOp_of_list (by rw [List.getElem?_toArray]; rfl) ?_
 ((with_reducible refine wpList_stoR (us := mC m ad cap) 0 wU wU (hSz) wU kR wU wU ?_); intro wa hSa)
 refine ⟨bnext hb5 hSa.b, ?_⟩
 go_frame
 have hba := bnext hb5 hSa.b
 refine wpAnyC_rest [9, 10] [_, _] rfl (by simp only [List.map_cons, List.map_nil, List.getElem?_toArray]; rfl) kR kR kR (hba) ?_
 repeat (refine ⟨_, .inl ⟨by with_unfolding_all rfl, fun w' _ => by with_unfolding_all exact rfl⟩, ?_⟩; go_frame)
 unfold wpPure
 refine of_wpList_nil (P := Tryz.prog) (ops := #[]) ?_
 have qm := (hSa.blk 0 rfl).1
 have ta := bnext hb0 hba
 have qx := (hba.block _ hlt0).trans q0
 have qmz := hSa.z
 clear hb0 hb5 hSz hc4 hlt0 q0 hba
 obtain ⟨Bm, hBm⟩ : ∃ Bm, Bm = w1.heap.size := ⟨_, rfl⟩
 rw [← hBm] at qm ⊢
 clear hSa hBm qmz
 have tb := bal (Below.refl wa.heap.size wa) (.cells (mC m ad cap) 27)
 have qo := heap_alloc_new wa (.cells (mC m ad cap) 27)
 have qm0 := qm
 replace qx := (tb.block _ (Array.getElem?_eq_some_iff.1 qx).1).trans qx
 replace qm := (tb.block _ (Array.getElem?_eq_some_iff.1 qm).1).trans qm
 have t0 := bnext ta tb
 clear ta tb
 go_wp2_with (first | (with_reducible refine wpList_ldS (n := 4) (us := mC m ad cap) A_rmach kR wU wU (by assumption) wU wU ?_) | (with_reducible refine wpList_ldS (n := 4) (us := mC m ad cap) A_mach kR wU wU (by assumption) wU wU ?_) | (with_reducible refine wpList_ldB (v := .bool false) F_boolM wU wU (by assumption) (by have h : (mC m ad cap)[0]? = some (.bool m.ring) := rfl; rw [HRG.out] at h; exact h) ?_) | (with_reducible refine wpList_ldB F_sl wU wU (by assumption) wU ?_) | (with_reducible refine wpList_ldB (by first | exact F_int | fail) wU wU (by assumption) wU ?_))
 refine (HSh.out _).mono ?_
 rintro e w1 ⟨rfl, b1⟩
 replace qx := (b1.block _ (Array.getElem?_eq_some_iff.1 qx).1).trans qx
 replace qm := (b1.block _ (Array.getElem?_eq_some_iff.1 qm).1).trans qm
 replace qo := (b1.block _ (Array.getElem?_eq_some_iff.1 qo).1).trans qo
 have t1 := bnext t0 b1
 clear t0 b1
 go_wp2_with (first | (with_reducible refine wpList_ldS (n := 4) (us := mC m ad cap) A_rmach kR wU wU (by assumption) wU wU ?_) | (with_reducible refine wpList_ldS (n := 4) (us := mC m ad cap) A_mach kR wU wU (by assumption) wU wU ?_) | (with_reducible refine wpList_ldB (v := .bool false) F_boolM wU wU (by assumption) (by have h : (mC m ad cap)[0]? = some (.bool m.ring) := rfl; rw [HRG.out] at h; exact h) ?_) | (with_reducible refine wpList_ldB F_sl wU wU (by assumption) wU ?_) | (with_reducible refine wpList_ldB (by first | exact F_int | fail) wU wU (by assumption) wU ?_))
 refine (HM.out _ (hR.below t1)).mono ?_
 rintro e w2 ⟨rfl, b2⟩
 replace qx := (b2.block _ (Array.getElem?_eq_some_iff.1 qx).1).trans qx
 replace qm := (b2.block _ (Array.getElem?_eq_some_iff.1 qm).1).trans qm
 replace qo := (b2.block _ (Array.getElem?_eq_some_iff.1 qo).1).trans qo
 have t2 := bnext t1 b2
 clear t1 b2
 go_wp2_with (first | (with_reducible refine wpList_ldS (n := 4) (us := mC m ad cap) A_rmach kR wU wU (by assumption) wU wU ?_) | (with_reducible refine wpList_ldS (n := 4) (us := mC m ad cap) A_mach kR wU wU (by assumption) wU wU ?_) | (with_reducible refine wpList_ldB (v := .bool false) F_boolM wU wU (by assumption) (by have h : (mC m ad cap)[0]? = some (.bool m.ring) := rfl; rw [HRG.out] at h; exact h) ?_) | (with_reducible refine wpList_ldB F_sl wU wU (by assumption) wU ?_) | (with_reducible refine wpList_ldB (by first | exact F_int | fail) wU wU (by assumption) wU ?_))
 refine (HL.out _ (hL.below t2)).mono ?_
 rintro e w3 ⟨rfl, b3⟩
 replace qx := (b3.block _ (Array.getElem?_eq_some_iff.1 qx).1).trans qx
 replace qm := (b3.block _ (Array.getElem?_eq_some_iff.1 qm).1).trans qm
 replace qo := (b3.block _ (Array.getElem?_eq_some_iff.1 qo).1).trans qo
 have t3 := bnext t2 b3
 clear t2 b3
 go_wp2_with (first | (with_reducible refine wpList_ldS (n := 4) (us := mC m ad cap) A_rmach kR wU wU (by assumption) wU wU ?_) | (with_reducible refine wpList_ldS (n := 4) (us := mC m ad cap) A_mach kR wU wU (by assumption) wU wU ?_) | (with_reducible refine wpList_ldB (v := .bool false) F_boolM wU wU (by assumption) (by have h : (mC m ad cap)[0]? = some (.bool m.ring) := rfl; rw [HRG.out] at h; exact h) ?_) | (with_reducible refine wpList_ldB F_sl wU wU (by assumption) wU ?_) | (with_reducible refine wpList_ldB (by first | exact F_int | fail) wU wU (by assumption) wU ?_))
 refine (HP.out _ (hC.below t3)).mono ?_
 rintro e w4 ⟨rfl, b4⟩
 replace qx := (b4.block _ (Array.getElem?_eq_some_iff.1 qx).1).trans qx
 replace qm := (b4.block _ (Array.getElem?_eq_some_iff.1 qm).1).trans qm
 replace qo := (b4.block _ (Array.getElem?_eq_some_iff.1 qo).1).trans qo
 have t4 := bnext t3 b4
 clear t3 b4
 go_wp2_with (first | (with_reducible refine wpList_ldS (n := 4) (us := mC m ad cap) A_rmach kR wU wU (by assumption) wU wU ?_) | (with_reducible refine wpList_ldS (n := 4) (us := mC m ad cap) A_mach kR wU wU (by assumption) wU wU ?_) | (with_reducible refine wpList_ldB (v := .bool false) F_boolM wU wU (by assumption) (by have h : (mC m ad cap)[0]? = some (.bool m.ring) := rfl; rw [HRG.out] at h; exact h) ?_) | (with_reducible refine wpList_ldB F_sl wU wU (by assumption) wU ?_) | (with_reducible refine wpList_ldB (by first | exact F_int | fail) wU wU (by assumption) wU ?_))
 refine (HE.out _ (hR.below t4) (hL.below t4)).mono ?_
 rintro e w5 ⟨rfl, b5⟩
 replace qx := (b5.block _ (Array.getElem?_eq_some_iff.1 qx).1).trans qx
 replace qm := (b5.block _ (Array.getElem?_eq_some_iff.1 qm).1).trans qm
 replace qo := (b5.block _ (Array.getElem?_eq_some_iff.1 qo).1).trans qo
 have t5 := bnext t4 b5
 clear t4 b5
 go_wp2_with (first | (with_reducible refine wpList_ldS (n := 4) (us := mC m ad cap) A_rmach kR wU wU (by assumption) wU wU ?_) | (with_reducible refine wpList_ldS (n := 4) (us := mC m ad cap) A_mach kR wU wU (by assumption) wU wU ?_) | (with_reducible refine wpList_ldB (v := .bool false) F_boolM wU wU (by assumption) (by have h : (mC m ad cap)[0]? = some (.bool m.ring) := rfl; rw [HRG.out] at h; exact h) ?_) | (with_reducible refine wpList_ldB F_sl wU wU (by assumption) wU ?_) | (with_reducible refine wpList_ldB (by first | exact F_int | fail) wU wU (by assumption) wU ?_))
 refine (HMW.out _ (hR.below t5) (hL.below t5)).mono ?_
 rintro e w6 ⟨v6, rfl, ho6, b6⟩
 obtain ⟨aW, cW, rfl, hW, _, _⟩ := ho6.reps
 clear ho6
 replace qx := (b6.block _ (Array.getElem?_eq_some_iff.1 qx).1).trans qx
 replace qm := (b6.block _ (Array.getElem?_eq_some_iff.1 qm).1).trans qm
 replace qo := (b6.block _ (Array.getElem?_eq_some_iff.1 qo).1).trans qo
 have t6 := bnext t5 b6
 clear t5 b6
 go_wp2_with (first | (with_reducible refine wpList_ldS (n := 4) (us := mC m ad cap) A_rmach kR wU wU (by assumption) wU wU ?_) | (with_reducible refine wpList_ldS (n := 4) (us := mC m ad cap) A_mach kR wU wU (by assumption) wU wU ?_) | (with_reducible refine wpList_ldB (v := .bool false) F_boolM wU wU (by assumption) (by have h : (mC m ad cap)[0]? = some (.bool m.ring) := rfl; rw [HRG.out] at h; exact h) ?_) | (with_reducible refine wpList_ldB F_sl wU wU (by assumption) wU ?_) | (with_reducible refine wpList_ldB (by first | exact F_int | fail) wU wU (by assumption) wU ?_))
 refine (HMO.out _ (hR.below t6) (hL.below t6)).mono ?_
 rintro e w7 ⟨v7, rfl, ho7, b7⟩
 obtain ⟨aO, cO, rfl, hO, _, _⟩ := ho7.reps
 clear ho7
 replace qx := (b7.block _ (Array.getElem?_eq_some_iff.1 qx).1).trans qx
 replace qm := (b7.block _ (Array.getElem?_eq_some_iff.1 qm).1).trans qm
 replace qo := (b7.block _ (Array.getElem?_eq_some_iff.1 qo).1).trans qo
 replace hW := hW.below b7
 have t7 := bnext t6 b7
 clear t6 b7
 go_wp2_with fail
 refine (HCP.out aO cO _ hO).mono ?_
 rintro e w8 ⟨rfl, b8⟩
 replace qx := (b8.block _ (Array.getElem?_eq_some_iff.1 qx).1).trans qx
 replace qm := (b8.block _ (Array.getElem?_eq_some_iff.1 qm).1).trans qm
 replace qo := (b8.block _ (Array.getElem?_eq_some_iff.1 qo).1).trans qo
 replace hW := hW.below b8
 replace hO := hO.below b8
 have t8 := bnext t7 b8
 clear t7 b8
 go_wp2_with fail
 refine (HCW.out aW cW _ hW).mono ?_
 rintro e w9 ⟨rfl, b9⟩
 replace qx := (b9.block _ (Array.getElem?_eq_some_iff.1 qx).1).trans qx
 replace qm := (b9.block _ (Array.getElem?_eq_some_iff.1 qm).1).trans qm
 replace qo := (b9.block _ (Array.getElem?_eq_some_iff.1 qo).1).trans qo
 replace hW := hW.below b9
 replace hO := hO.below b9
 have t9 := bnext t8 b9
 clear t8 b9
 by_cases w0_ : WL.length = 0
 ·have dw : ((WL.length : Int) == 0) = true := by simp [w0_]
  clear w0_
  go_wp2_with fail
  refine (HTS.out _).mono ?_
  rintro e w40 ⟨rfl, b40⟩
  go_wp2_with fail
  go_ret
  exact ⟨rfl, bnext t9 b40⟩
 ·have dw : ((WL.length : Int) == 0) = false := beq_eq_false_iff_ne.2 (by omega)
  by_cases w24 : 24 < WL.length
  ·have dw2 : decide (24 < (WL.length : Int)) = true := decide_eq_true (by omega)
   clear w0_ w24
   go_wp2_with fail
   refine (HTS.out _).mono ?_
   rintro e w40 ⟨rfl, b40⟩
   go_wp2_with fail
   go_ret
   exact ⟨rfl, bnext t9 b40⟩
  ·have dw2 : decide (24 < (WL.length : Int)) = false := decide_eq_false (by omega)
   have hw1 : 0 < WL.length := by omega
   have hw24 : WL.length ≤ 24 := by omega
   clear w0_ w24
   obtain ⟨wz, hwz⟩ : ∃ wz, wz = w9 := ⟨_, rfl⟩
   rw [← hwz] at t9 qx hO hW
   rw [← hwz]
   have tz := t9
   clear hwz t9 qm qo
   have hZ := (SL.nil wz).nilS (α := Int) (e := 3) cIntS
   go_wp2_with fail
   go_loopw [143, 11] (fun iv cv wr => ∃ i : Nat, i ≤ OM.length ∧ iv = .int .i64 i ∧ SL wz.heap.size wz wr [pOwn cInt 1 3 cv (CL.take i)]) (fun iv _ _ => OM.length - (intOf iv).toNat)
   case atStart => exact ⟨0, by omega, rfl, by rw [List.take_zero]; exact hZ⟩
   case round =>
    clear hZ
    obtain ⟨i, hi, rfl, hSr⟩ := hrel
    have qr := (hSr.b.block _ (Array.getElem?_eq_some_iff.1 qx).1).trans qx
    have tr := bnext tz hSr.b
    by_cases hlt : i < OM.length
    ·have hOr := hO.below hSr.b
     have hCr := hC.below tr
     obtain ⟨⟨h0, h1⟩, hnx⟩ := HOR.out i hlt
     obtain ⟨c, hc⟩ : ∃ c, c = atD 0 OM i := ⟨_, rfl⟩
     obtain ⟨TL, hTL⟩ : ∃ TL, TL = CL.take i := ⟨_, rfl⟩
     have htl : TL.length ≤ 6 := by rw [hTL, List.length_take]; omega
     rw [← hc] at h0 h1 hnx
     rw [← hTL] at hnx hSr
     have HC1 := hid hc; have HNX := hid hnx
     obtain ⟨aL, cL, rfl, _⟩ := hSr.slice 0 rfl
     clear hc hnx hTL
     go_wp2_with (first | ((with_reducible refine wpList_idx _ 0 E_ints F_int cInt1 wU wU (hOr) oD oD (fun _ => wU) (fun _ => ?_)); rw [← HC1.out]) | (with_reducible refine wpList_ldB F_sl wU wU (by assumption) wU ?_) | (with_reducible refine wpList_idx _ 0 E_ints F_int cInt1 wU wU (hCr) oD oD (fun _ => wU) (fun _ => ?_)) | ((with_reducible refine wpList_pushL (y := (atD 0 C c)) 0 E_ints wU wU (hSr) wU cIntO ⟨rfl, rfl⟩ (by first | with_unfolding_all rfl | simp) wU (by first | omega | (simp; omega)) (by first | omega | (simp; omega)) ?_); intro v5 w5 hS5))
     have hS6 := hS5
     simp only [List.set_cons_zero] at hS6
     rw [← HNX.out] at hS6
     exact ⟨⟨i + 1, by omega, by go_num, hS6⟩, by simp [intOf]; omega⟩
    ·have hii : i = OM.length := by omega
     have e1 : CL.take i = CL := by rw [hii, ← HCL.out, List.take_length]
     rw [e1] at hSr
     obtain ⟨aL, cL, rfl, _⟩ := hSr.slice 0 rfl
     have hLr := hSr.rd 0 rfl
     have hWr := hW.below hSr.b
     have hin_ : ¬ ((i : Int) < (OM.length : Int)) := by omega
     clear e1 hii hlt hi hO hW qx
     obtain ⟨w60, hw60⟩ : ∃ w60, w60 = wr := ⟨_, rfl⟩
     rw [← hw60] at tr qr hLr hWr
     rw [← hw60]
     have t60 := tr
     have qx := qr
     clear hSr hw60 tr qr tz
     go_wp2_with fail
     refine (HPT.out aW aL cW cL _ hWr hLr hw1 hw24).mono ?_
     rintro e w61 ⟨aP, cP, xa, xc, ya, yc, rfl, hP, hX, hY, b61⟩
     replace qx := (b61.block _ (Array.getElem?_eq_some_iff.1 qx).1).trans qx
     replace hWr := hWr.below b61
     replace hLr := hLr.below b61
     have t61 := bnext t60 b61
     clear t60 b61
     clear hWr hLr
     have z0 : atD ((none, 0, 0) : SlH) [(xa, WL.length, xc), (ya, WL.length, yc)] (0 : Nat) = (xa, WL.length, xc) := rfl
     have z1 : atD ((none, 0, 0) : SlH) [(xa, WL.length, xc), (ya, WL.length, yc)] (1 : Nat) = (ya, WL.length, yc) := rfl
     have dWW : ((WL.length : Int) != (WL.length : Int)) = false := by simp
     go_wp2_with (first | (first | (with_reducible refine wpList_idxG ((none, 0, 0) : SlH) E_sls F_sl cSl1 wU wU (hP) (rfl) oD oD (fun _ => wU) wU (fun _ => wU) (fun _ => ?_)) | (with_reducible refine wpList_idxN _ ((none, 0, 0) : SlH) E_sls F_sl cSl1 wU wU (hP) (rfl) oD oD (fun _ => wU) (fun _ => ?_))) | (with_reducible refine wpList_ldS (n := 7) (us := wC m ad cap al l cl ac C cc N) A_wov kR wU wU (by assumption) wU wU ?_))
     refine (HV1.out _ (hR.below t61) (hC.below t61) (hL.below t61)).mono ?_
     rintro e w62 ⟨v1, v2, rfl, hoV⟩
     have b62 := hoV.b
     obtain ⟨aF, cF, rfl, hF⟩ := hoV.slice 0 rfl
     obtain ⟨aN, cN, rfl, hN_⟩ := hoV.slice 1 rfl
     clear hoV
     rw [HP0.out, HAL.out]
     replace qx := (b62.block _ (Array.getElem?_eq_some_iff.1 qx).1).trans qx
     replace hP := hP.below b62
     replace hX := hX.below b62
     replace hY := hY.below b62
     have t62 := bnext t61 b62
     clear t61 b62
     go_wp2_with (first | (with_reducible refine wpList_idxG ((none, 0, 0) : SlH) E_sls F_sl cSl1 wU wU (hP) (rfl) oD oD (fun _ => wU) wU (fun _ => wU) (fun _ => ?_)) | (with_reducible refine wpList_idxN _ ((none, 0, 0) : SlH) E_sls F_sl cSl1 wU wU (hP) (rfl) oD oD (fun _ => wU) (fun _ => ?_)))
     refine (amSame aF xa cF xc WL.length P0 _ hF hX HP0.out (by omega)).mono ?_
     rintro e w63 ⟨rfl, b63⟩
     replace qx := (b63.block _ (Array.getElem?_eq_some_iff.1 qx).1).trans qx
     replace hP := hP.below b63
     replace hX := hX.below b63
     replace hY := hY.below b63
     replace hF := hF.below b63
     replace hN_ := hN_.below b63
     have t63 := bnext t62 b63
     clear t62 b63
     clear hF hX
     have CSA := HSM.out aN cN _ (hL.below t63) hN_
     cases hin : allIn l NL with
     | false =>
      rw [hin] at CSA
      have HSA := hid CSA
      clear CSA hin
      go_wp2_with fail
      refine HSA.out.mono ?_
      rintro e w' ⟨rfl, rfl⟩
      go_wp2_with fail
      refine (HTS.out _).mono ?_
      rintro e w80 ⟨rfl, b80⟩
      go_wp2_with fail
      go_ret
      exact ⟨rfl, bnext t63 b80⟩
     | true =>
      rw [hin] at CSA
      have CV := HV2.out aN cN
      rw [HS2.out hin] at CV
      have HV := hid CV
      have HSA := hid CSA
      clear CSA CV hin
      go_wp2_with fail
      refine HSA.out.mono ?_
      rintro e w' ⟨rfl, rfl⟩
      go_wp2_with (first | (with_reducible refine wpList_ldS (n := 7) (us := wC m ad cap al l cl ac C cc N) A_wov kR wU wU (by assumption) wU wU ?_))
      refine (HV.out _ (hR.below t63) (hC.below t63) hN_).mono ?_
      rintro e w81 ⟨v1, v2, rfl, hoV⟩
      have b81 := hoV.b
      obtain ⟨aG, cG, rfl, hG⟩ := hoV.slice 0 rfl
      clear hoV
      rw [HP1.out]
      have hP2 := hP.below b81
      have hY2 := hY.below b81
      have t81 := bnext t63 b81
      clear hP hY hN_
      have hP := hP2
      go_wp2_with (first | (with_reducible refine wpList_idxG ((none, 0, 0) : SlH) E_sls F_sl cSl1 wU wU (hP) (rfl) oD oD (fun _ => wU) wU (fun _ => wU) (fun _ => ?_)) | (with_reducible refine wpList_idxN _ ((none, 0, 0) : SlH) E_sls F_sl cSl1 wU wU (hP) (rfl) oD oD (fun _ => wU) (fun _ => ?_)))
      refine (amSame aG ya cG yc WL.length P1 _ hG hY2 HP1.out (by omega)).mono ?_
      rintro e w82 ⟨rfl, b82⟩
      go_wp2_with fail
      refine (HTS.out _).mono ?_
      rintro e w83 ⟨rfl, b83⟩
      go_wp2_with fail
      go_ret
      exact ⟨rfl, bnext t81 (bnext b82 b83)⟩
end Go.Proofs.YtglpfpdomnllkaaGreat

namespace Go.Proofs.YtglpfpdomnllkaaGreat
open Go.RowKit
set_option maxHeartbeats 8000000
set_option maxRecDepth 100000
theorem TopThimbleShown_any (m : MacV) (ad al ac : Option Addr) (cap cl cc : Nat) (l C : List Int) (n : Int) (w : World) (hR : Ints w ad cap m.sw) (hL : Ints w al cl l) (hC : Ints w ac cc C) (hI : InI m.gears) :
  Calls Tryz.prog 3 #[.agg (wC m ad cap al l cl ac C cc n)] w fun r w' => r = .returned (.bool true) ∧ Below w.heap.size w w' := by
 refine (Classical.em ((decide (m.sw.length ≤ 19) && decide (l.length ≤ 67)) = false)).elim (fun c1 => ts_out1 m ad al ac cap cl cc l C n w hR hL hC hI  c1) (fun c1 => ?_)
 replace c1 : (decide (m.sw.length ≤ 19) && decide (l.length ≤ 67)) = true := by first | exact c1 | (exact Classical.not_not.1 c1) | (simpa using c1)
 refine (Classical.em (macE m ≠ 0)).elim (fun c2 => ts_out2 m ad al ac cap cl cc l C n w hR hL hC hI c1 c2) (fun c2 => ?_)
 replace c2 : macE m = 0 := by first | exact c2 | (exact Classical.not_not.1 c2) | (simpa using c2)
 refine (Classical.em (5 < m.gears)).elim (fun c3 => ts_out3 m ad al ac cap cl cc l C n w hR hL hC hI c1 c2 c3) (fun c3 => ?_)
 replace c3 : ¬ 5 < m.gears := by first | exact c3 | (exact Classical.not_not.1 c3) | (simpa using c3)
 refine (Classical.em (m.ring = true)).elim (fun c4 => ts_out4 m ad al ac cap cl cc l C n w hR hL hC hI c1 c2 c3 c4) (fun c4 => ?_)
 replace c4 : m.ring = false := by first | exact c4 | (exact Classical.not_not.1 c4) | (simpa using c4)
 refine (Classical.em (loadE m l ≠ 0)).elim (fun c5 => ts_out5 m ad al ac cap cl cc l C n w hR hL hC hI c1 c2 c3 c4 c5) (fun c5 => ?_)
 replace c5 : loadE m l = 0 := by first | exact c5 | (exact Classical.not_not.1 c5) | (simpa using c5)
 refine (Classical.em ((l.length : Int) < 2)).elim (fun c6 => ts_out6 m ad al ac cap cl cc l C n w hR hL hC hI c1 c2 c3 c4 c5 c6) (fun c6 => ?_)
 replace c6 : ¬ (l.length : Int) < 2 := by first | exact c6 | (exact Classical.not_not.1 c6) | (simpa using c6)
 refine (Classical.em (6 < (l.length : Int))).elim (fun c7 => ts_out7 m ad al ac cap cl cc l C n w hR hL hC hI c1 c2 c3 c4 c5 c6 c7) (fun c7 => ?_)
 replace c7 : ¬ 6 < (l.length : Int) := by first | exact c7 | (exact Classical.not_not.1 c7) | (simpa using c7)
 refine (Classical.em (n < 1)).elim (fun c8 => ts_out8 m ad al ac cap cl cc l C n w hR hL hC hI c1 c2 c3 c4 c5 c6 c7 c8) (fun c8 => ?_)
 replace c8 : ¬ n < 1 := by first | exact c8 | (exact Classical.not_not.1 c8) | (simpa using c8)
 refine (Classical.em (16 < n)).elim (fun c9 => ts_out9 m ad al ac cap cl cc l C n w hR hL hC hI c1 c2 c3 c4 c5 c6 c7 c8 c9) (fun c9 => ?_)
 replace c9 : ¬ 16 < n := by first | exact c9 | (exact Classical.not_not.1 c9) | (simpa using c9)
 refine (Classical.em (30 < (C.length : Int))).elim (fun c10 => ts_out10 m ad al ac cap cl cc l C n w hR hL hC hI c1 c2 c3 c4 c5 c6 c7 c8 c9 c10) (fun c10 => ?_)
 replace c10 : ¬ 30 < (C.length : Int) := by first | exact c10 | (exact Classical.not_not.1 c10) | (simpa using c10)
 refine (Classical.em (placeE (l.length : Int) C ≠ 0)).elim (fun c11 => ts_out11 m ad al ac cap cl cc l C n w hR hL hC hI c1 c2 c3 c4 c5 c6 c7 c8 c9 c10 c11) (fun c11 => ?_)
 replace c11 : placeE (l.length : Int) C = 0 := by first | exact c11 | (exact Classical.not_not.1 c11) | (simpa using c11)
 refine (Classical.em (meetsM m l (2 * n) = true)).elim (fun c12 => ts_out12 m ad al ac cap cl cc l C n w hR hL hC hI c1 c2 c3 c4 c5 c6 c7 c8 c9 c10 c11 c12) (fun c12 => ?_)
 replace c12 : meetsM m l (2 * n) = false := by first | exact c12 | (exact Classical.not_not.1 c12) | (simpa using c12)
 exact ts_main m ad al ac cap cl cc l C n w hR hL hC hI c1 c2 c3 c4 c5 c6 c7 c8 c9 c10 c11 c12
end Go.Proofs.YtglpfpdomnllkaaGreat
