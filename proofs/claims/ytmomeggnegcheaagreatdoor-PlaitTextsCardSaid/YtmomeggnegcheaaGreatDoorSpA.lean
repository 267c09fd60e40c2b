/- Contract of the iterator between: the slots strictly between two others. Conditions: the slots are on the stand. Contract: Spans. Conditions: slices readable, numbers fit an int, sizes as stated. -/
import Derived.Test.YtmomeggnegcheaaGreatDoorSlA
import Derived.Test.YtmomeggnegcheaaGreatDoorPlB
import Derived.Test.YtmomeggnegcheaaGreatDoorQA
import Derived.IntWalk
import Derived.Test.YtmomeggnegcheaaGreatDoorMcA
set_option linter.all false
/- Contract of the iterator between: the slots strictly between two others. Conditions: the slots are on the stand. -/
namespace Go.Proofs.YtmomeggnegcheaaGreatDoor
open Go.RowKit Go.Shelf
attribute [local go_sem] Oper.semAt_some
set_option maxHeartbeats 2000000
set_option maxRecDepth 100000

abbrev Slot (n : Nat) := { x : Int // 0 ≤ x ∧ x < n }
def spFar (n : Nat) (f t : Int) : Int := (t - f) % n
def spFrom (n : Nat) (f t : Int) : Int := if n - spFar n f t < spFar n f t then t else f
def spLen (n : Nat) (f t : Int) : Int := if n - spFar n f t < spFar n f t then n - spFar n f t else spFar n f t
def spAt (n : Nat) (h : 0 < n) (f t : Int) (k : Nat) : Slot n := ⟨(spFrom n f t + ((k : Int) + 1)) % n, Int.emod_nonneg _ (by omega), Int.emod_lt_of_pos _ (by omega)⟩
def spUpto (n : Nat) (h : 0 < n) (f t : Int) (k : Nat) : List (Slot n) := (List.range k).map (spAt n h f t)
theorem spUpto_succ (n : Nat) (h : 0 < n) (f t : Int) (k : Nat) : spUpto n h f t (k + 1) = spUpto n h f t k ++ [spAt n h f t k] := by simp [spUpto, List.range_succ]
theorem spUpto_len (n : Nat) (h : 0 < n) (f t : Int) (k : Nat) : (spUpto n h f t k).length = k := by simp [spUpto]
def spCnt (n : Nat) (f t : Int) : Nat := (spLen n f t - 1).toNat
def slotV {n : Nat} (x : Slot n) : Array Value := #[.int .i64 x.1]

/-- this block is as it was. -/
def KeepAt (b : Nat) (A B : World) : Prop := B.heap[b]? = A.heap[b]?
theorem KeepAt.cell {b o : Nat} {A B : World} (h : KeepAt b A B) : B.cell? ⟨b, o, none⟩ = A.cell? ⟨b, o, none⟩ := World.cell?_of_block (w := A) h

theorem between1_in (m l bn bm n₀ n : Nat) (hm : 1 ≤ m) (hn : 0 < n) (hn2 : n ≤ 1048576) (f t : Int) (hf0 : 0 ≤ f) (hf1 : f < n) (ht0 : 0 ≤ t) (ht1 : t < n) (hbn : bn < n₀) (hbm : bm < n₀) (J Jx : List (Slot n) → World → Prop)
    (hY : ∀ pre (x : Slot n) W, J pre W → pre.length < n → YieldAt Fence.wide (m - 1) Tryz.prog l (slotV x) W fun e W' =>
      (e = .returned (.bool true) ∧ J (pre ++ [x]) W' ∧ KeepAt bn W W') ∨ (e = .returned (.bool false) ∧ Jx (pre ++ [x]) W'))
    (hJ : ∀ pre (W W' : World), J pre W → W.grownBy W' none → J pre W')
    (W : World) (hWn : W.cell? ⟨bn, 0, none⟩ = some (.int .i64 n)) (hWf : W.cell? ⟨bm, 0, none⟩ = some (.int .i64 f)) (hWt : W.cell? ⟨bm, 1, none⟩ = some (.int .i64 t)) (hz : n₀ ≤ W.heap.size) (h0 : J [] W) :
    CallsIn Fence.wide m Tryz.prog 112 #[.func (.yield l) #[] #[], .pointer (some ⟨bm, 0, none⟩), .pointer (some ⟨bn, 0, none⟩)] W fun e W' => (∃ v, e = .returned v) ∧
      ((∃ ys, ys = spUpto n hn f t (spCnt n f t) ∧ J ys W') ∨ (∃ pre, (∃ k, pre = spUpto n hn f t k) ∧ Jx pre W')) := by
  refine callsIn_of_wp Tryz.func112 rfl trivial ?_ rfl
  simp only [Tryz.ntmps112, List.size_toArray, List.length_cons, List.length_nil, Nat.reduceAdd, Nat.reduceSub, Array.replicate_succ, Array.replicate_zero, List.push_toArray, List.append_toArray, List.nil_append, List.cons_append]
  gi_wp2
  refine wpIn_wide.2 ?_
  have hmodI : InI (t - f) := by unfold InI; omega
  have hnI : (0 : Int) < n := by omega
  have hnI2 : (n : Int) ≤ 1048576 := by omega
  have C := fun w' => modulo_any (t - f) n w' hmodI hnI hnI2
  have hr0 := Int.emod_nonneg (t - f) (b := (n : Int)) (by omega)
  have hr1 := Int.emod_lt_of_pos (t - f) hnI
  clear hmodI hnI hnI2
  obtain ⟨r, hr⟩ : ∃ r, r = (t - f) % (n : Int) := ⟨_, rfl⟩
  have hfar : spFar n f t = r := by rw [hr]; rfl
  rw [← hr] at C hr0 hr1
  clear hr
  obtain ⟨fr, hfr⟩ : ∃ x, x = spFrom n f t := ⟨_, rfl⟩
  obtain ⟨fa, hfa⟩ : ∃ x, x = spLen n f t := ⟨_, rfl⟩
  have hpar : (n - r < r ∧ fr = t ∧ fa = n - r) ∨ (¬ n - r < r ∧ fr = f ∧ fa = r) := by
    rw [hfr, hfa]; unfold spFrom spLen; rw [hfar]
    by_cases h : n - r < r
    · exact .inl ⟨h, by rw [if_pos h], by rw [if_pos h]⟩
    · exact .inr ⟨h, by rw [if_neg h], by rw [if_neg h]⟩
  have hfr0 : 0 ≤ fr := by omega
  have hfr1 : fr < n := by omega
  have hfa0 : 0 ≤ fa := by omega
  have hfa1 : fa ≤ n := by omega
  have hat : ∀ k : Nat, (spAt n hn f t k).1 = (fr + ((k : Int) + 1)) % n := fun k => by rw [hfr]; rfl
  have hct : spCnt n f t = (fa - 1).toNat := by rw [hfa]; rfl
  clear hfar hfr hfa
  have HAT := hid hat; clear hat
  have HCT := hid hct; clear hct
  have hwr : IntKind.i64.wrap (t - f) = t - f := IntWalk.i64_in _ (by omega)
  have hwr2 : IntKind.i64.wrap (n - r) = n - r := IntWalk.i64_in _ (by omega)
  have CC := hid C; clear C
  refine wp_region_quiet_lit (by kernel_rfl) (by kernel_rfl) ?_
  repeat (first  | quiet_step (exact quiet_same (CC.out _)))
  refine wpQuiet_nil ?_
  intro w1 hb1
  replace hb1 := below_drewN hb1
  have hJ1 := hJ _ _ _ h0 (grown_of_below hb1)
  have hc1 := (hb1.cell (p := ⟨bn, 0, none⟩) (Nat.lt_of_lt_of_le hbn hz)).trans hWn
  have hc2 := (hb1.cell (p := ⟨bm, 0, none⟩) (Nat.lt_of_lt_of_le hbm hz)).trans hWf
  have hc3 := (hb1.cell (p := ⟨bm, 1, none⟩) (Nat.lt_of_lt_of_le hbm hz)).trans hWt
  have hz1 := Nat.le_trans hz hb1.size
  clear hwr hWn hWf hWt
  rcases hpar with ⟨hc, e1, e2⟩ | ⟨hc, e1, e2⟩
  · have e1' := e1.symm
    subst e1' e2
    gi_wp2
    refine wpIn_wide.2 ?_
    refine wp_region_quiet_lit (by kernel_rfl) (by kernel_rfl) ?_
    repeat (first  | quiet_step (fail))
    refine wpQuiet_nil ?_
    intro w2 hb2
    replace hb2 := below_drewN hb2
    have hJ2 := hJ _ _ _ hJ1 (grown_of_below hb2)
    have hd1 := (hb2.cell (p := ⟨bn, 0, none⟩) (Nat.lt_of_lt_of_le hbn hz1)).trans hc1
    have hz2 := Nat.le_trans hz1 hb2.size
    clear hwr2 hc1 hc2 hc3
    gi_wp2
    gi_loopw [6] (fun k wr => ∃ j : Nat, k = .int .i64 ((j : Int) + 1) ∧ j ≤ ((n - r) - 1).toNat ∧ J (spUpto n hn f t j) wr ∧ wr.cell? ⟨bn, 0, none⟩ = some (.int .i64 n)) (fun k _ => ((n - r) - intOf k).toNat)
    case atStart => exact ⟨0, rfl, Nat.zero_le _, hJ2, hd1⟩
    case round =>
      obtain ⟨j, rfl, hj, hJs, hcn⟩ := hrel
      by_cases hlt : (j : Int) + 1 < (n - r)
      · obtain ⟨fn, tmps, assign, body, hy, hR⟩ := hY _ (spAt n hn f t j) wr hJs (by rw [spUpto_len]; omega)
        unfold slotV at hy
        rw [HAT.out] at hy
        gi_wp2
        refine hR.mono ?_
        rintro e W3 (⟨rfl, hJ3, hk3⟩ | ⟨rfl, hJx3⟩)
        · gi_wp2
          go_roundw
          case rel => exact ⟨j + 1, by simp, by omega, by rw [spUpto_succ]; exact hJ3, hk3.cell.trans hcn⟩
          case measure => simp [intOf]; omega
        · gi_wp2
          refine bodyPost_ret (results_none rfl _ _ _) rfl ?_
          exact ⟨⟨_, rfl⟩, .inr ⟨_, ⟨j + 1, (spUpto_succ n hn f t j).symm⟩, hJx3⟩⟩
      · have hjj : j = ((n - r) - 1).toNat := by omega
        gi_wp2
        go_end0
        exact ⟨⟨_, rfl⟩, .inl (by rw [HCT.out, ← hjj]; exact hJs)⟩
  · have e1' := e1.symm
    have e2' := e2.symm
    subst e1' e2'
    gi_wp2
    gi_loopw [6] (fun k wr => ∃ j : Nat, k = .int .i64 ((j : Int) + 1) ∧ j ≤ (r - 1).toNat ∧ J (spUpto n hn f t j) wr ∧ wr.cell? ⟨bn, 0, none⟩ = some (.int .i64 n)) (fun k _ => (r - intOf k).toNat)
    case atStart => exact ⟨0, rfl, Nat.zero_le _, hJ1, hc1⟩
    case round =>
      obtain ⟨j, rfl, hj, hJs, hcn⟩ := hrel
      by_cases hlt : (j : Int) + 1 < r
      · obtain ⟨fn, tmps, assign, body, hy, hR⟩ := hY _ (spAt n hn f t j) wr hJs (by rw [spUpto_len]; omega)
        unfold slotV at hy
        rw [HAT.out] at hy
        gi_wp2
        refine hR.mono ?_
        rintro e W3 (⟨rfl, hJ3, hk3⟩ | ⟨rfl, hJx3⟩)
        · gi_wp2
          go_roundw
          case rel => exact ⟨j + 1, by simp, by omega, by rw [spUpto_succ]; exact hJ3, hk3.cell.trans hcn⟩
          case measure => simp [intOf]; omega
        · gi_wp2
          refine bodyPost_ret (results_none rfl _ _ _) rfl ?_
          exact ⟨⟨_, rfl⟩, .inr ⟨_, ⟨j + 1, (spUpto_succ n hn f t j).symm⟩, hJx3⟩⟩
      · have hjj : j = (r - 1).toNat := by omega
        gi_wp2
        go_end0
        exact ⟨⟨_, rfl⟩, .inl (by rw [HCT.out, ← hjj]; exact hJs)⟩

/-- between's value hands out the slots between. -/
theorem between_stops (m bn bm n₀ n : Nat) (hm : 1 ≤ m) (hn : 0 < n) (hn2 : n ≤ 1048576) (f t : Int) (hf0 : 0 ≤ f) (hf1 : f < n) (ht0 : 0 ≤ t) (ht1 : t < n) (hbn : bn < n₀) (hbm : bm < n₀) (w : World) (hn₀ : n₀ ≤ w.heap.size)
    (hWn : w.cell? ⟨bn, 0, none⟩ = some (.int .i64 n)) (hWf : w.cell? ⟨bm, 0, none⟩ = some (.int .i64 f)) (hWt : w.cell? ⟨bm, 1, none⟩ = some (.int .i64 t)) :
    SeqStopsK Fence.wide m Tryz.prog 112 #[.pointer (some ⟨bm, 0, none⟩), .pointer (some ⟨bn, 0, none⟩)] (slotV (n := n)) (KeepAt bn) (fun ys => ys = spUpto n hn f t (spCnt n f t)) (fun _ => True) n w := fun l J Jx W hW hJ _ hY h0 => by
  have c1 := (hW.cell (p := ⟨bn, 0, none⟩) (by show bn < _; omega)).trans hWn
  have c2 := (hW.cell (p := ⟨bm, 0, none⟩) (by show bm < _; omega)).trans hWf
  have c3 := (hW.cell (p := ⟨bm, 1, none⟩) (by show bm < _; omega)).trans hWt
  refine (between1_in m l bn bm n₀ n hm hn hn2 f t hf0 hf1 ht0 ht1 hbn hbm J Jx hY (fun pre A B hA hg => hJ _ _ _ none hA hg (fun r e => by cases e)) W c1 c2 c3 (Nat.le_trans hn₀ hW.size) h0).mono ?_
  rintro e W' ⟨he, ⟨ys, hys, hj⟩ | ⟨pre, _, hj⟩⟩
  · exact ⟨he, .inl ⟨ys, hys, hj⟩⟩
  · exact ⟨he, .inr ⟨pre, trivial, hj⟩⟩

/-- the value that between hands back. -/
theorem between_any (n : Nat) (f t : Int) (w : World) :
    Calls Tryz.prog 58 #[.int .i64 n, .agg #[.int .i64 f, .int .i64 t]] w fun r w' =>
      r = .returned (.func (.func 112) #[] #[.pointer (some ⟨w.heap.size + 1, 0, none⟩), .pointer (some ⟨w.heap.size, 0, none⟩)]) ∧ w' = (w.alloc (.cells #[.int .i64 n] 3)).alloc (.cells #[.int .i64 f, .int .i64 t] 55) := by
  go_enter Tryz.func58, Tryz.ntmps58
  go_wp2
  go_ret
  exact ⟨rfl, rfl⟩
end Go.Proofs.YtmomeggnegcheaaGreatDoor

/- Contract: Spans. Conditions: slices readable, numbers fit an int, sizes as stated. -/
namespace Go.Proofs.YtmomeggnegcheaaGreatDoor
open Go.RowKit Go.Shelf
attribute [local go_sem] Oper.semAt_some
set_option maxHeartbeats 2000000
set_option maxRecDepth 100000

def nz (x : Int) : Int := if x = 0 then 0 else 1
theorem nz_min {x : Int} (h0 : 0 ≤ x) : (if x < 1 then x else 1) = nz x := by unfold nz; split <;> split <;> omega
theorem nz_bd (x : Int) : 0 ≤ nz x ∧ nz x ≤ 1 := by unfold nz; split <;> omega
def cntOf (s : List Int) {n : Nat} (pre : List (Slot n)) : Int := (pre.map fun x => nz (atD 0 s x.1)).sum
theorem cntOf_snoc (s : List Int) {n : Nat} (pre : List (Slot n)) (x : Slot n) : cntOf s (pre ++ [x]) = cntOf s pre + nz (atD 0 s x.1) := by simp [cntOf]
theorem cntOf_bd (s : List Int) {n : Nat} : ∀ pre : List (Slot n), 0 ≤ cntOf s pre ∧ cntOf s pre ≤ pre.length
  | [] => by simp [cntOf]
  | x :: r => by
    have := cntOf_bd s r
    have h := nz_bd (atD 0 s x.1)
    have e : cntOf s (x :: r) = nz (atD 0 s x.1) + cntOf s r := by simp [cntOf]
    rw [e, List.length_cons]; omega
def spanN (l : List Int) (n : Nat) (f t : Int) : Int := if h : 0 < n then cntOf l (spUpto n h f t (spCnt n f t)) else 0
/-- the spans, and whether all moves were legal. -/
def spansGo : List Int → List (Int × Int) → List Int → List Int × Bool
  | _, [], acc => (acc, true)
  | s, m :: r, acc => if legalN s m.1 m.2 = 0 then spansGo (nextL s m.1 m.2) r (acc ++ [spanN s s.length m.1 m.2]) else ([], false)
def spansE (l : List Int) (ms : List (Int × Int)) : Int := if checkStand l ≠ 0 then checkStand l else if manyE ms.length ≠ 0 then manyE ms.length else if (spansGo l ms []).2 then 0 else 18
def spansL (l : List Int) (ms : List (Int × Int)) : List Int := if spansE l ms = 0 then (spansGo l ms []).1 else []

/-- what holds at the head of a round. -/
def SpanI (w : World) (l : List Int) (ms : List (Int × Int)) (k : Nat) (acc scur : List Int) (sv ov : Value) (Ds : List Nat) (wr : World) : Prop :=
  scur.length = l.length ∧ (∀ x ∈ scur, 0 ≤ x ∧ x ≤ 64) ∧ spansGo scur (ms.drop k) acc = spansGo l ms [] ∧ acc.length = k ∧
    SL w.heap.size w wr (pBlk w.heap.size (.cells #[sv] 22) :: pSrc cInt 1 3 w sv scur :: pOwn cInt 1 3 ov acc :: Ds.map pMark)
theorem spansGo_step (s : List Int) (ms : List (Int × Int)) (k : Nat) (acc : List Int) (h : k < ms.length) : spansGo s (ms.drop k) acc =
    if legalN s (atD (0, 0) ms k).1 (atD (0, 0) ms k).2 = 0 then spansGo (nextL s (atD (0, 0) ms k).1 (atD (0, 0) ms k).2) (ms.drop (k + 1)) (acc ++ [spanN s s.length (atD (0, 0) ms k).1 (atD (0, 0) ms k).2]) else ([], false) := by
  have e : ms.drop k = ms[k] :: ms.drop (k + 1) := List.drop_eq_getElem_cons h
  have e2 : atD (0, 0) ms k = ms[k] := by simp [atD, h]
  rw [e, e2, spansGo]

theorem Spans_any (a a2 : Option Addr) (cap cap2 : Nat) (l : List Int) (ms : List (Int × Int)) (w : World) (hS : Ints w a cap l) (hM : Pairs w a2 cap2 ms) (hI : ∀ x ∈ l, InI x) (hms : ms.length ≤ 1048576) :
    Calls Tryz.prog 14 #[.slice a l.length cap, .slice a2 ms.length cap2] w fun r w' => RetLE w (spansL l ms) (spansE l ms) r w' := by
  have hcap := hS.le
  have hm := hS.max
  by_cases h : checkStand l = 0 ∧ manyE ms.length = 0
  · have hc := CheckStand_any a cap l (w.alloc (.cells #[.slice a l.length cap] 22)) (hS.alloc _) hI
    rw [h.1] at hc
    have HC := hid hc; clear hc
    have hk := fun w => checkMoves_any a2 cap2 ms.length w hms
    rw [h.2] at hk
    have HK := hid hk; clear hk
    refine callsIn_wide.1 (callsIn_of_wp_marks (n := 9) (F := Fence.wide) Tryz.func14 rfl trivial ?_ rfl)
    simp only [Tryz.ntmps14, List.size_toArray, List.length_cons, List.length_nil, Nat.reduceAdd, Nat.reduceSub, Array.replicate_succ, Array.replicate_zero, List.push_toArray, List.append_toArray, List.nil_append, List.cons_append]
    refine wpIn_wide.2 ?_
    go_wp2_with fail
    refine HC.out.mono ?_
    rintro e w1 ⟨rfl, hb1⟩
    have hs1 : w1.cell? ⟨w.heap.size, 0, none⟩ = some (.slice a l.length cap) := by rw [hb1.cell (by simp)]; simp [go_sem]
    go_wp2_with fail
    refine (HK.out _).mono ?_
    rintro e w1' ⟨rfl, rfl⟩
    go_wp2_with (go_at_call 54; refine (first_any _ _ [_, _] _ (reps_newN cIntS [_, _] 2 rfl (by decide) _ _ (by simp) rfl)).mono ?_; rintro e w' ⟨rfl, rfl⟩)
    have hB1 := hb1
    have hmem := (checkStand_zero h.1).2.2.1
    have hz : l.length ≤ 64 := (checkStand_zero h.1).2.1
    have hz0 : 4 ≤ l.length := (checkStand_zero h.1).1
    have HE := hid h; clear h
    refine wp_loop (fun a' wr => ∃ (k : Nat) (acc scur : List Int) (sv ov : Value) (Ds : List Nat) (u9 u10 u11 u24 u25 u26 u27 u28 u29 u30 u31 u32 u33 u34 u35 u36 u37 u38 u39 u40 u41 u42 u43 u44 u45 u46 u47 u48 u49 u50 : Value), a' = { tmps := #[.slice a l.length cap, .slice a2 ms.length cap2, .pointer (some ⟨w.heap.size, 0, none⟩), undef, .slice none 0 0, .int .i64 0, .int .i64 0, ov, undef, u9, u10, u11, .slice a l.length cap, .int .i64 0, .slice a2 ms.length cap2, .int .i64 0, .slice (some ⟨w1.heap.size, 0, none⟩) 2 2, .int .i64 0, .int .i64 0, .bool false, undef, .slice a2 ms.length cap2, .int .i64 ms.length, .int .i64 k, u24, u25, u26, u27, u28, u29, u30, u31, u32, u33, u34, u35, u36, u37, u38, u39, u40, u41, u42, u43, u44, u45, u46, u47, u48, u49, u50, undef], defers := Ds.map markOf } ∧ k ≤ ms.length ∧ SpanI w l ms k acc scur sv ov Ds wr) (fun a' _ => ms.length - (intOf (a'.tmps.getD 23 undef)).toNat) ?_ ?_
    · refine ⟨0, [], l, .slice a l.length cap, .slice none 0 0, [], undef, undef, undef, undef, undef, undef, undef, undef, undef, undef, undef, undef, undef, undef, undef, undef, undef, undef, undef, undef, undef, undef, undef, undef, undef, undef, undef, undef, undef, undef, rfl, Nat.zero_le _, rfl, hmem, by rw [List.drop_zero], rfl, ?_⟩
      have q0 := (SL.nil w).box (.cells #[.slice a l.length cap] 22)
      have q1 := ((q0.mono hb1).al (.cells #[.int .i64 0, .int .i64 0] 27)).nilS (α := Int) (e := 3) cIntS
      exact (q1.newSrc hS).pick [2, 0, 1] (by decide) _ rfl
    · rintro a' wr ⟨k, acc, scur, sv, ov, Ds, u9, u10, u11, u24, u25, u26, u27, u28, u29, u30, u31, u32, u33, u34, u35, u36, u37, u38, u39, u40, u41, u42, u43, u44, u45, u46, u47, u48, u49, u50, rfl, hk, hlen, hmem, hgo, hacc, hSL⟩
      have hR := hM.below hSL.b
      by_cases hlt : k < ms.length
      · have hstep := spansGo_step scur ms k acc hlt
        rw [hgo] at hstep
        have HST := hid hstep; clear hstep
        have HGO := hid hgo; clear hgo
        have HL := hid hlen; clear hlen
        have HA := hid hacc; clear hacc
        have HM := hid hmem; clear hmem
        obtain ⟨a', cap', rfl, hSc⟩ := hSL.src 1 rfl
        have hsc := hSL.cell 0 rfl 0 rfl
        have hbz := (hSL.blk 0 rfl).2.2
        go_wp2_with (with_reducible refine wpList_idxS _ (0, 0) E_moves F_move cPair1 (by with_unfolding_all rfl) (by with_unfolding_all rfl) (hR) (by first | omega | (simp; done)) (by first | omega | (simp; done)) (fun _ => by with_unfolding_all rfl) (fun pidx => ?_))
        have hSL2 := hSL.box (.cells #[.int .i64 (atD (0, 0) ms k).1, .int .i64 (atD (0, 0) ms k).2] 55)
        refine (legal_any _ _ _ _ scur _ (hSc.alloc _)).mono ?_
        rintro e w2 ⟨rfl, hb2⟩
        have hSL3 := hSL2.mono hb2
        clear hSL hSL2 hsc hbz hSc
        by_cases hleg : legalN scur (atD (0, 0) ms k).1 (atD (0, 0) ms k).2 = 0
        · have hne : (legalN scur (atD (0, 0) ms k).1 (atD (0, 0) ms k).2 != 0) = false := by rw [hleg]; rfl
          have HLG := hid hleg; clear hleg
          have hsc := hSL3.cell 1 rfl 0 rfl
          have hbz := (hSL3.blk 1 rfl).2.2
          have hm0 := hSL3.cell 0 rfl 0 rfl
          have hm1 := hSL3.cell 0 rfl 1 rfl
          have hmz := (hSL3.blk 0 rfl).2.2
          go_wp2_with fail
          refine (between_any _ _ _ _).mono ?_
          rintro e w3 ⟨rfl, rfl⟩
          go_wp2_with fail
          obtain ⟨hf0, hf1, ht0, ht1, _, _⟩ := legalN_zero HLG.out
          have hpos : 0 < scur.length := by rw [HL.out]; omega
          have hsml : scur.length ≤ 1048576 := by rw [HL.out]; omega
          have hS4 := ((hSL3.box (.cells #[.int .i64 0] 3)).box (.cells #[.int .i64 scur.length] 3)).box (.cells #[.int .i64 (atD (0, 0) ms k).1, .int .i64 (atD (0, 0) ms k).2] 55)
          have hcn := hS4.cell 1 rfl 0 rfl
          have hcm0 := hS4.cell 0 rfl 0 rfl
          have hcm1 := hS4.cell 0 rfl 1 rfl
          simp only [World.size_alloc] at hS4 hcn hcm0 hcm1
          have hmarks : ∀ D ∈ Ds, D < w2.heap.size := by
            intro D hD
            obtain ⟨i, hi, rfl⟩ := List.mem_iff_getElem.1 hD
            exact (hSL3.blk (i + 4) (k := Ds[i]) (o := .deferred (some [])) (by simp [pMark, hi])).2.2
          have hokT : ∀ (c : Int), ∀ p ∈ (pBlk (w2.heap.size + 1 + 1) (.cells #[.int .i64 (atD (0, 0) ms k).1, .int .i64 (atD (0, 0) ms k).2] 55) :: pBlk (w2.heap.size + 1) (.cells #[.int .i64 scur.length] 3) :: pBlk w2.heap.size (.cells #[.int .i64 c] 3) ::
              pBlk wr.heap.size (.cells #[.int .i64 (atD (0, 0) ms k).1, .int .i64 (atD (0, 0) ms k).2] 55) :: pBlk w.heap.size (.cells #[.slice a' scur.length cap'] 22) :: pSrc cInt 1 3 w (.slice a' scur.length cap') scur :: pOwn cInt 1 3 ov acc :: Ds.map pMark), p.okT (w2.heap.size + 1 + 1 + 1) := by
            intro c p hp
            simp only [List.mem_cons, List.mem_map] at hp
            rcases hp with rfl | rfl | rfl | rfl | rfl | rfl | rfl | ⟨D, hD, rfl⟩
            · exact okT_cells
            · exact okT_cells
            · exact okT_cells
            · exact okT_cells
            · exact okT_cells
            · exact okT_src
            · exact okT_own
            · exact okT_lt (by have := hmarks D hD; omega)
          have HOK := hid hokT; clear hokT
          refine (wpIn_wide (n := 9)).1 ?_
          refine wpIn_rangeFunc_ownF rfl (by decide) (gf := 112) (lb := #[.pointer (some ⟨w2.heap.size + 1 + 1, 0, none⟩), .pointer (some ⟨w2.heap.size + 1, 0, none⟩)]) rfl trivial (enters_of Tryz.func112 (by kernel_rfl) rfl)
            (between_stops 8 (w2.heap.size + 1) (w2.heap.size + 1 + 1) (w2.heap.size + 1 + 1 + 1) scur.length (by decide) hpos hsml (atD (0, 0) ms k).1 (atD (0, 0) ms k).2 hf0 hf1 ht0 ht1 (by omega) (by omega) _ (by simp) hcn hcm0 hcm1)
            (fun h1 h2 => Eq.trans h2 h1) (fun W j o o' hj _ _ _ => World.putObj_heap_other (by simp at hj; omega)) (Below.refl _ _) (fun _ => rfl)
            (fun pre W => pre.length ≤ scur.length ∧ SL w.heap.size w W (pBlk (w2.heap.size + 1 + 1) (.cells #[.int .i64 (atD (0, 0) ms k).1, .int .i64 (atD (0, 0) ms k).2] 55) :: pBlk (w2.heap.size + 1) (.cells #[.int .i64 scur.length] 3) :: pBlk w2.heap.size (.cells #[.int .i64 (cntOf scur pre)] 3) ::
              pBlk wr.heap.size (.cells #[.int .i64 (atD (0, 0) ms k).1, .int .i64 (atD (0, 0) ms k).2] 55) :: pBlk w.heap.size (.cells #[.slice a' scur.length cap'] 22) :: pSrc cInt 1 3 w (.slice a' scur.length cap') scur :: pOwn cInt 1 3 ov acc :: Ds.map pMark))
            (fun _ _ _ => False) ?hI (fun _ _ _ _ _ hs _ _ => hs) ⟨by simp, by simpa [cntOf] using hS4⟩
            (fun x => { tmps := #[.slice a l.length cap, .slice a2 ms.length cap2, .pointer (some ⟨w.heap.size, 0, none⟩), undef, .slice none 0 0, .int .i64 0, .int .i64 0, ov, undef, .pointer (some ⟨wr.heap.size, 0, none⟩), .pointer (some ⟨w2.heap.size, 0, none⟩), .int .i64 x.1, .slice a l.length cap, .int .i64 0, .slice a2 ms.length cap2, .int .i64 0, .slice (some ⟨w1.heap.size, 0, none⟩) 2 2, .int .i64 0, .int .i64 0, .bool false, undef, .slice a2 ms.length cap2, .int .i64 ms.length, .int .i64 k, .bool true, pidx, .agg #[.int .i64 (atD (0, 0) ms k).1, .int .i64 (atD (0, 0) ms k).2], .slice a' scur.length cap', .agg #[.int .i64 (atD (0, 0) ms k).1, .int .i64 (atD (0, 0) ms k).2], .int .i64 (legalN scur (atD (0, 0) ms k).1 (atD (0, 0) ms k).2), .bool false, .slice a' scur.length cap', .int .i64 scur.length, .agg #[.int .i64 (atD (0, 0) ms k).1, .int .i64 (atD (0, 0) ms k).2], .func (.func 112) #[] #[.pointer (some ⟨w2.heap.size + 1 + 1, 0, none⟩), .pointer (some ⟨w2.heap.size + 1, 0, none⟩)], .int .i64 x.1, u36, u37, u38, u39, u40, u41, u42, u43, u44, u45, u46, u47, u48, u49, u50, undef], defers := [] }) ?assign ?body ?done ?stop
          case hI =>
            intro s A B row hs hg hr
            exact ⟨hs.1, hs.2.turn (C := w2.heap.size + 1 + 1 + 1) (by have := hSL3.z; omega) (HOK.out _) hg (fun r e => by have := hr r e; simpa using this)⟩
          case assign =>
            intro l x W K hK
            dsimp only [slotV]
            gi_wp2
            exact hK
          case body =>
            rintro q pre x W ⟨hpl, hs⟩ hlt2
            have hco := hs.cell 2 rfl 0 rfl
            have hfo := hs.frozen 2 rfl 0
            have hsc2 := hs.cell 4 rfl 0 rfl
            obtain ⟨a3, cap3, e3, hSc3⟩ := hs.src 5 rfl
            cases e3
            obtain ⟨bb, oo, rfl, hcx⟩ := hSc3.cells (by decide) 0 x.1.toNat (by have := x.2.2; omega)
            have hcx := hcx 0 (.int .i64 (atD 0 scur x.1)) rfl
            simp only [Nat.mul_one, Nat.add_zero] at hcx
            have hx0 := x.2.1
            have hx1 := x.2.2
            have hxm := HM.out _ (atD_memZ hx0 hx1)
            have hv := nz_min hxm.1
            have hvb := nz_bd (atD 0 scur x.1)
            have hcb := cntOf_bd scur pre
            have hwrp : IntKind.i64.wrap (cntOf scur pre + nz (atD 0 scur x.1)) = cntOf scur pre + nz (atD 0 scur x.1) := IntWalk.i64_in _ (by omega)
            have hmx : Tryz.prog.follows .mixedOrders = true := by kernel_rfl
            gi_wp2
            gi_region_with_o (fail)
            all_goals gi_wp2
            all_goals (try go_bits)
            all_goals
              refine ⟨(KeepsOthers.setCell _ _ _).trans (KeepsOthers.drew _), Below.heap_setCell _ _ _ _ (by simp), by simp; omega, ?_⟩
              rw [cntOf_snoc]
              exact (hs.set 2 rfl 0 _).drew
          case done =>
            rintro D ys W hD rfl ⟨hpl, hs0⟩ hK
            have hs := hs0.addMark (C := w2.heap.size + 1 + 1 + 1) (HOK.out _) (by have := hSL3.z; omega) (by simpa using hD) hK
            clear hs0
            have hco := hs.cell 3 rfl 0 rfl
            have hsc2 := hs.cell 5 rfl 0 rfl
            have hm0' := hs.cell 4 rfl 0 rfl
            have hm1' := hs.cell 4 rfl 1 rfl
            dsimp only
            have hac : acc.length ≤ 1048576 := by rw [HA.out]; omega
            go_wp2_with (((with_reducible refine wpList_pushL (y := _) 7 E_ints (by with_unfolding_all rfl) (by with_unfolding_all rfl) (hs) (by with_unfolding_all rfl) cIntO ⟨rfl, rfl⟩ (by first | with_unfolding_all rfl | simp) (by with_unfolding_all rfl) (by first | omega | (simp; omega)) (by first | omega | (simp; omega)) ?_); intro v4 w4 hP); clear hco hsc2 hm0' hm1'; have hq1 := hP.cell 5 rfl 0 rfl; have hq2 := hP.cell 4 rfl 0 rfl; have hq3 := hP.cell 4 rfl 1 rfl; have hq4 := hP.frozen 5 rfl 0)
            obtain ⟨a5, cap5, e5, hSc5⟩ := hP.src 6 rfl
            cases e5
            refine (next_any _ _ _ _ scur _ hSc5 hsml hf0 hf1 ht0 ht1).mono ?_
            rintro e w5 ⟨v5, rfl, ho5, hb5⟩
            have hQ := hP.call (SL.ofOwn ho5 hb5)
            obtain ⟨a6, cap6, rfl, _⟩ := hQ.slice 0 rfl
            have hq1 := hQ.cell 6 rfl 0 rfl
            have hq4 := hQ.frozen 6 rfl 0
            clear hq2 hq3
            go_wp2_with fail
            have hR1 := hQ.set 6 rfl 0 (.slice a6 (nextL scur (atD (0, 0) ms k).1 (atD (0, 0) ms k).2).length cap6)
            have hR2 := hR1.weaken 0 rfl (pSrc cInt 1 3 w (.slice a6 (nextL scur (atD (0, 0) ms k).1 (atD (0, 0) ms k).2).length cap6) (nextL scur (atD (0, 0) ms k).1 (atD (0, 0) ms k).2)) (fun b hb => .inr hb)
            have hR3 := SL.pickA (K := [_, _, _, _, _, _, _, _, _]) (M := Ds.map pMark) hR2 [6, 0, 8, 1] (by decide) (by simp) [_, _, _, _] rfl
            refine ⟨⟨k + 1, acc ++ [spanN scur scur.length (atD (0, 0) ms k).1 (atD (0, 0) ms k).2], nextL scur (atD (0, 0) ms k).1 (atD (0, 0) ms k).2, .slice a6 (nextL scur (atD (0, 0) ms k).1 (atD (0, 0) ms k).2).length cap6, v4, D :: Ds, _, _, _, _, _, _, _, _, _, _, _, _, _, _, _, _, _, _, _, _, _, _, _, _, _, _, _, _, _, _, rfl, by omega, ?_, ?_, ?_, ?_, ?_⟩, by simp [intOf]; omega⟩
            · rw [nextL_len, HL.out]
            · intro x hx
              rcases mem_nextL hx with h | h
              · exact HM.out x h
              · omega
            · have := HST.out
              rw [if_pos HLG.out] at this
              exact this.symm
            · rw [List.length_append, HA.out]; rfl
            · have e : spanN scur scur.length (atD (0, 0) ms k).1 (atD (0, 0) ms k).2 = cntOf scur (spUpto scur.length hpos (atD (0, 0) ms k).1 (atD (0, 0) ms k).2 (spCnt scur.length (atD (0, 0) ms k).1 (atD (0, 0) ms k).2)) := by unfold spanN; rw [dif_pos hpos]
              rw [e]
              exact hR3
          case stop =>
            rintro D c pre W _ _ h _
            exact h.elim
        · have hne : (legalN scur (atD (0, 0) ms k).1 (atD (0, 0) ms k).2 != 0) = true := by simpa using hleg
          have HLG := hid hleg; clear hleg
          have e18 : spansE l ms = 18 := by
            have := HST.out
            rw [if_neg HLG.out] at this
            unfold spansE
            rw [if_neg (by simp [HE.out.1]), if_neg (by simp [HE.out.2]), this]; rfl
          have e0 : spansL l ms = [] := by unfold spansL; rw [if_neg (by rw [e18]; decide)]
          have H18 := hid e18; clear e18
          have H0 := hid e0; clear e0
          go_wp2_with fail
          refine hSL3.leave' (L := [_, _, _, _]) fun W hW => ⟨.tuple #[.slice none 0 0, .int .i64 18], ?_, by rw [H18.out, H0.out]; exact RetLE.none rfl hW.b⟩
          simp [results, Tryz.f14, go_sem]
      · have hkk : k = ms.length := by omega
        have h0 : spansGo scur (ms.drop ms.length) acc = (acc, true) := by rw [List.drop_length]; rfl
        rw [hkk, h0] at hgo
        have e0 : spansE l ms = 0 := by
          unfold spansE
          rw [if_neg (by simp [HE.out.1]), if_neg (by simp [HE.out.2]), ← hgo]; rfl
        have e1 : spansL l ms = acc := by unfold spansL; rw [if_pos e0, ← hgo]
        have H0 := hid e0; clear e0
        have H1 := hid e1; clear e1
        clear hgo h0 hlen hacc
        have HKK := hid hkk; clear hkk
        go_wp2_with fail
        refine hSL.leave' (L := [_, _, _]) fun W hW => ⟨.tuple #[ov, .int .i64 0], ?_, by rw [H0.out, H1.out]; exact RetLE.own _ rfl (hW.own 2 rfl) (Nat.le_refl _) hW.b⟩
        simp [results, Tryz.f14, go_sem]
  · have hk := fun w => checkMoves_any a2 cap2 ms.length w hms
    have HK := hid hk; clear hk
    have hc := CheckStand_any a cap l (w.alloc (.cells #[.slice a l.length cap] 22)) (hS.alloc _) hI
    by_cases h1 : checkStand l = 0
    · have h2 : manyE ms.length ≠ 0 := fun e => h ⟨h1, e⟩
      have e1 : spansE l ms = manyE ms.length := by unfold spansE; rw [if_neg (by simp [h1]), if_pos h2]
      have e3 : spansL l ms = [] := by unfold spansL; rw [if_neg (by rw [e1]; exact h2)]
      have hne : (manyE ms.length != 0) = true := by simpa using h2
      rw [h1] at hc
      have HC := hid hc; clear hc
      rw [e1, e3]
      have H2 := hid h2
      clear h h1 h2 e1 e3
      go_enter Tryz.func14, Tryz.ntmps14
      go_wp2_with fail
      refine HC.out.mono ?_
      rintro e w1 ⟨rfl, hb1⟩
      have hs1 : w1.cell? ⟨w.heap.size, 0, none⟩ = some (.slice a l.length cap) := by rw [hb1.cell (by simp)]; simp [go_sem]
      go_wp2_with fail
      refine (HK.out _).mono ?_
      rintro e w1' ⟨rfl, rfl⟩
      have hz2 : (manyE ms.length = 0) = False := by simpa using H2.out
      go_wp2_with (go_at_call 54; refine (first_any _ _ [_, _] _ (reps_newN cIntS [_, _] 2 rfl (by decide) _ _ (by simp) rfl)).mono ?_; rintro e w' ⟨rfl, rfl⟩)
      go_ret2
      exact RetLE.none rfl (bal (bnext (bal (Below.refl _ _) _) hb1) _)
    · have e1 : spansE l ms = checkStand l := by unfold spansE; rw [if_pos h1]
      have e3 : spansL l ms = [] := by unfold spansL; rw [if_neg (by rw [e1]; exact h1)]
      have hne : (checkStand l != 0) = true := by simpa using h1
      have HC := hid hc; clear hc
      rw [e1, e3]
      have H1 := hid h1
      clear h h1 e1 e3
      go_enter Tryz.func14, Tryz.ntmps14
      go_wp2_with fail
      refine HC.out.mono ?_
      rintro e w1 ⟨rfl, hb1⟩
      have hs1 : w1.cell? ⟨w.heap.size, 0, none⟩ = some (.slice a l.length cap) := by rw [hb1.cell (by simp)]; simp [go_sem]
      go_wp2_with fail
      refine (HK.out _).mono ?_
      rintro e w1' ⟨rfl, rfl⟩
      have hz1 : (checkStand l = 0) = False := by simpa using H1.out
      go_wp2_with (go_at_call 54; refine (first_any _ _ [_, _] _ (reps_newN cIntS [_, _] 2 rfl (by decide) _ _ (by simp) rfl)).mono ?_; rintro e w' ⟨rfl, rfl⟩)
      go_ret2
      exact RetLE.none rfl (bal (bnext (bal (Below.refl _ _) _) hb1) _)
end Go.Proofs.YtmomeggnegcheaaGreatDoor
