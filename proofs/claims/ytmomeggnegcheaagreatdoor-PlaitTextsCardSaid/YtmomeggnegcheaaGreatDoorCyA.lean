/- Contract of the iterator cycle: the places of a cycle. Conditions: the list is a permutation. Contract: cycles. Conditions: the list is a permutation of at most 2^20 numbers. -/
import Derived.Test.YtmomeggnegcheaaGreatDoorSpA
import Derived.Test.YtmomeggnegcheaaGreatDoorMcA
import Derived.Test.YtmomeggnegcheaaGreatDoorSlA
import Derived.Sort.LoopGhostIn
set_option linter.all false
/- Contract of the iterator cycle: the places of a cycle. Conditions: the list is a permutation. -/
namespace Go.Proofs.YtmomeggnegcheaaGreatDoor
open Go.RowKit Go.Shelf
attribute [local go_sem] Oper.semAt_some
set_option maxHeartbeats 2000000
set_option maxRecDepth 100000

theorem Reps.keep {α : Type} {c : α → Value} {sz : Nat} {w w' : World} {a : Option Addr} {cap : Nat} {l : List α} (h : Reps c sz w a cap l) (hk : ∀ b, a = some b → KeepAt b.block w w') : Reps c sz w' a cap l := by
  obtain ⟨h1, h2, h3, h4, h5⟩ := h
  refine ⟨h1, h2, h3, h4, fun j u hj => ?_⟩
  obtain ⟨b, o, e, hc⟩ := h5 j u hj
  exact ⟨b, o, e, (hk _ e).cell.trans hc⟩
/-- what the iterator must find again. -/
structure CyKeep (bi bp : Nat) (a : Option Addr) (A B : World) : Prop where
  i : KeepAt bi A B
  p : KeepAt bp A B
  s : ∀ b, a = some b → KeepAt b.block A B
theorem CyKeep.trans {bi bp : Nat} {a : Option Addr} {A B C : World} (h : CyKeep bi bp a A B) (k : CyKeep bi bp a B C) : CyKeep bi bp a A C :=
  ⟨Eq.trans k.i h.i, Eq.trans k.p h.p, fun b e => Eq.trans (k.s b e) (h.s b e)⟩

section
variable {p : List Int} (hp : IsP p) {i : Int} (h0 : 0 ≤ i) (h1 : i < p.length)
def itS (k : Nat) : Slot p.length := ⟨itP p i k, itP_rng hp h0 h1 k⟩
def orbS (d : Nat) : List (Slot p.length) := (List.range d).map (itS hp h0 h1)
theorem orbS_succ (d : Nat) : orbS hp h0 h1 (d + 1) = orbS hp h0 h1 d ++ [itS hp h0 h1 d] := by simp [orbS, List.range_succ]
theorem orbS_len (d : Nat) : (orbS hp h0 h1 d).length = d := by simp [orbS]
theorem orbS_val {d : Nat} (hd : Ord p i d) : (orbS hp h0 h1 d).map (·.1) = orb p i := by rw [orb_eq hd]; simp [orbS, itS, Function.comp_def]

theorem cycle1_in (m l bi bp cap : Nat) (a : Option Addr) (d : Nat) (hd : Ord p i d) (hn2 : p.length ≤ 1048576) (hm : 1 ≤ m) (J Jx : List (Slot p.length) → World → Prop)
    (hY : ∀ pre (x : Slot p.length) W, J pre W → pre.length < p.length → YieldAt Fence.wide (m - 1) Tryz.prog l (slotV x) W fun e W' =>
      (e = .returned (.bool true) ∧ J (pre ++ [x]) W' ∧ CyKeep bi bp a W W') ∨ (e = .returned (.bool false) ∧ Jx (pre ++ [x]) W'))
    (W : World) (hWi : W.cell? ⟨bi, 0, none⟩ = some (.int .i64 i)) (hWp : W.cell? ⟨bp, 0, none⟩ = some (.slice a p.length cap)) (hS : Ints W a cap p) (hJ0 : J [] W) :
    CallsIn Fence.wide m Tryz.prog 183 #[.func (.yield l) #[] #[], .pointer (some ⟨bi, 0, none⟩), .pointer (some ⟨bp, 0, none⟩)] W fun e W' => (∃ v, e = .returned v) ∧
      ((∃ ys, ys = orbS hp h0 h1 d ∧ J ys W') ∨ (∃ pre, (∃ k, pre = orbS hp h0 h1 k) ∧ Jx pre W')) := by
  refine callsIn_of_wp Tryz.func183 rfl trivial ?_ rfl
  simp only [Tryz.ntmps183, List.size_toArray, List.length_cons, List.length_nil, Nat.reduceAdd, Nat.reduceSub, Array.replicate_succ, Array.replicate_zero, List.push_toArray, List.append_toArray, List.nil_append, List.cons_append]
  gi_wp2
  gi_loopg [4] d (fun g x wr => ∃ k : Nat, k + g = d ∧ 0 < g ∧ x = .int .i64 (itP p i k) ∧ J (orbS hp h0 h1 k) wr ∧ wr.cell? ⟨bi, 0, none⟩ = some (.int .i64 i) ∧ wr.cell? ⟨bp, 0, none⟩ = some (.slice a p.length cap) ∧ Ints wr a cap p)
  case atStart => exact ⟨0, by omega, hd.pos, rfl, hJ0, hWi, hWp, hS⟩
  case round =>
    obtain ⟨k, hkg, hg0, rfl, hJs, hci, hcp, hSr⟩ := hrel
    have hdl := hd.le
    obtain ⟨fn, tmps, assign, body, hy, hR⟩ := hY _ (itS hp h0 h1 k) wr hJs (by rw [orbS_len]; omega)
    unfold slotV itS at hy
    dsimp only at hy
    gi_wp2
    refine hR.mono ?_
    rintro e W3 (⟨rfl, hJ3, hk3⟩ | ⟨rfl, hJx3⟩)
    · have hci3 := hk3.i.cell.trans hci
      have hcp3 := hk3.p.cell.trans hcp
      have hS3 := hSr.keep hk3.s
      clear hci hcp hSr hJs hR hy
      have hr := itP_rng hp h0 h1 k
      obtain ⟨bb, oo, rfl, hcx⟩ := hS3.cells (by decide) 0 (itP p i k).toNat (by omega)
      have hcx := hcx 0 (.int .i64 (itP p i (k + 1))) rfl
      simp only [Nat.mul_one, Nat.add_zero] at hcx
      by_cases hlast : k + 1 = d
      · have hb : itP p i (k + 1) = i := by rw [hlast]; exact hd.back
        rw [hb] at hcx
        have HB := hid hb; clear hb
        have HL := hid hlast; clear hlast
        gi_wp2
        refine bodyPost_ret (results_none rfl _ _ _) rfl ?_
        refine ⟨⟨_, rfl⟩, .inl ?_⟩
        first | exact ⟨_, rfl, by rw [← HL.out, orbS_succ]; exact hJ3⟩ | (rw [← HL.out, orbS_succ]; exact hJ3)
      · have hne : (itP p i (k + 1) == i) = false := by simpa using hd.min (k + 1) (by omega) (by omega)
        gi_wp2
        gi_roundg (gk - 1)
        case measure => omega
        case rel => exact ⟨k + 1, by omega, by omega, rfl, by rw [orbS_succ]; exact hJ3, hci3, hcp3, hS3⟩
    · gi_wp2
      go_end0
      refine ⟨⟨_, rfl⟩, .inr ⟨_, ⟨k + 1, (orbS_succ hp h0 h1 k).symm⟩, hJx3⟩⟩

theorem cycle_stops (m bi bp cap : Nat) (a : Option Addr) (d : Nat) (hd : Ord p i d) (hn2 : p.length ≤ 1048576) (hm : 1 ≤ m) (w : World) (hbi : bi < w.heap.size) (hbp : bp < w.heap.size)
    (hWi : w.cell? ⟨bi, 0, none⟩ = some (.int .i64 i)) (hWp : w.cell? ⟨bp, 0, none⟩ = some (.slice a p.length cap)) (hS : Ints w a cap p) :
    SeqStopsK Fence.wide m Tryz.prog 183 #[.pointer (some ⟨bi, 0, none⟩), .pointer (some ⟨bp, 0, none⟩)] (slotV (n := p.length)) (CyKeep bi bp a) (fun ys => ys = orbS hp h0 h1 d) (fun _ => True) p.length w := fun l J Jx W hW _ _ hY hJ0 => by
  have c1 := (hW.cell (p := ⟨bi, 0, none⟩) hbi).trans hWi
  have c2 := (hW.cell (p := ⟨bp, 0, none⟩) hbp).trans hWp
  refine (cycle1_in hp h0 h1 m l bi bp cap a d hd hn2 hm J Jx hY W c1 c2 (hS.below hW) hJ0).mono ?_
  rintro e W' ⟨he, ⟨ys, hys, hj⟩ | ⟨pre, _, hj⟩⟩
  · exact ⟨he, .inl ⟨ys, hys, hj⟩⟩
  · exact ⟨he, .inr ⟨pre, trivial, hj⟩⟩
end

theorem cycle_any (a : Option Addr) (n cap : Nat) (i : Int) (w : World) :
    Calls Tryz.prog 148 #[.slice a n cap, .int .i64 i] w fun r w' =>
      r = .returned (.func (.func 183) #[] #[.pointer (some ⟨w.heap.size + 1, 0, none⟩), .pointer (some ⟨w.heap.size, 0, none⟩)]) ∧ w' = (w.alloc (.cells #[.slice a n cap] 22)).alloc (.cells #[.int .i64 i] 3) := by
  go_enter Tryz.func148, Tryz.ntmps148
  go_wp2
  go_ret
  exact ⟨rfl, rfl⟩
end Go.Proofs.YtmomeggnegcheaaGreatDoor

/- Contract: cycles. Conditions: the list is a permutation of at most 2^20 numbers. -/
namespace Go.Proofs.YtmomeggnegcheaaGreatDoor
open Go.RowKit Go.Shelf
attribute [local go_sem] Oper.semAt_some
set_option maxHeartbeats 2000000
set_option maxRecDepth 100000

abbrev SlH := Option Addr × Nat × Nat
abbrev cSl (x : SlH) : Value := .slice x.1 x.2.1 x.2.2
theorem cSl1 (x : SlH) : (cSl x).cells = #[cSl x] := rfl
theorem cSlS (x : SlH) : (cSl x).cells.size = 1 := rfl
theorem cSlO (x : SlH) : ∀ u ∈ (cSl x).cells.toList, u.oneCell' = true := by intro u hu; simp [cSl, Value.cells] at hu; subst hu; rfl
theorem E_sls : ETy Tryz.prog 114 22 (.slice none 0 0) 1 24 := ⟨Tryz.underlying114, by kernel_rfl, rfl, by decide⟩
theorem F_sl : Flat Tryz.prog 22 := ⟨_, Tryz.underlying22, rfl⟩
theorem E_bools : ETy Tryz.prog 167 4 (cBool false) 1 1 := ⟨Tryz.underlying167, by kernel_rfl, rfl, by decide⟩
theorem F_bool : Flat Tryz.prog 4 := ⟨_, Tryz.underlying4, rfl⟩

def inP (q : SlH × List Int) : Pc := pOwn cInt 1 3 (cSl q.1) q.2
def valS {n : Nat} (pre : List (Slot n)) : List Int := pre.map (·.1)
theorem valS_snoc {n : Nat} (pre : List (Slot n)) (x : Slot n) : valS (pre ++ [x]) = valS pre ++ [x.1] := by simp [valS]
theorem valS_len {n : Nat} (pre : List (Slot n)) : (valS pre).length = pre.length := by simp [valS]
def markS {n : Nat} (S : List Bool) (pre : List (Slot n)) : List Bool := pre.foldl (fun s x => s.set x.1.toNat true) S
theorem markS_snoc {n : Nat} (S : List Bool) (pre : List (Slot n)) (x : Slot n) : markS S (pre ++ [x]) = (markS S pre).set x.1.toNat true := by simp [markS]
theorem markS_len {n : Nat} : ∀ (pre : List (Slot n)) (S : List Bool), (markS S pre).length = S.length
  | [], S => rfl
  | x :: r, S => by rw [markS, List.foldl_cons]; exact (markS_len r _).trans (by simp)
theorem atD_setB (S : List Bool) (k x : Int) (hk : 0 ≤ k) (hx : 0 ≤ x) (hl : k < S.length) : atD false (S.set k.toNat true) x = (atD false S x || decide (x = k)) := by
  unfold atD
  by_cases e : x = k
  · subst e
    have : x.toNat < S.length := by omega
    simp [this]
  · have : ¬ k.toNat = x.toNat := by omega
    simp [List.getD_eq_getElem?_getD, List.getElem?_set_ne this, e]
theorem markS_at {n : Nat} : ∀ (pre : List (Slot n)) (S : List Bool), S.length = n → ∀ x : Int, 0 ≤ x → atD false (markS S pre) x = (atD false S x || decide (x ∈ valS pre))
  | [], S, _, x, _ => by simp [markS, valS]
  | y :: r, S, h, x, hx => by
    have := markS_at r (S.set y.1.toNat true) (by simpa using h) x hx
    rw [markS, List.foldl_cons]
    rw [markS] at this
    rw [this, atD_setB S y.1 x y.2.1 hx (by rw [h]; exact y.2.2), Bool.or_assoc]
    congr 1
    rw [Bool.eq_iff_iff]; simp [valS]
/-- what holds at the head of a round. -/
def CyI (w : World) (p : List Int) (k : Nat) (ad : Option Addr) (Hs : Nat) (S : List Bool) (ov : Value) (qs : List (SlH × List Int)) (Ds : List Nat) (wr : World) : Prop :=
  S.length = p.length ∧ (∀ x : Int, 0 ≤ x → x < p.length → atD false S x = decide (x ∈ (cycK p k).flatten)) ∧ qs.map Prod.snd = cycK p k ∧
    SL w.heap.size w wr (pBlk Hs (.cells #[.slice ad p.length p.length] 167) :: pOwn cBool 1 4 (.slice ad p.length p.length) S :: pOwn cSl 1 22 ov (qs.map Prod.fst) :: (qs.map inP ++ Ds.map pMark))
theorem cycK_in {p : List Int} {k : Nat} (h : (k : Int) ∈ (cycK p k).flatten) : cycK p (k + 1) = cycK p k := by rw [cycK, if_pos h]
theorem cycK_out {p : List Int} {k : Nat} (h : ¬ (k : Int) ∈ (cycK p k).flatten) : cycK p (k + 1) = cycK p k ++ [orb p k] := by rw [cycK, if_neg h]
theorem KeepAt.of_grown {b : Nat} {A B : World} {row : Option Nat} (hg : A.grownBy B row) (hb : b < A.heap.size) (hne : some b ≠ row) : KeepAt b A B := hg.block b hb hne
theorem KeepAt.trans {b : Nat} {A B C : World} (h : KeepAt b A B) (k : KeepAt b B C) : KeepAt b A C := Eq.trans k h
theorem KeepAt.set {b : Nat} {A : World} {x : Addr} {v : Value} (h : b ≠ x.block) : KeepAt b A (A.setCell x v) := Below.heap_setCell _ _ _ _ h

theorem cycles_any (a : Option Addr) (cap : Nat) (p : List Int) (w : World) (hS : Ints w a cap p) (hp : IsP p) (hn : p.length ≤ 1048576) :
    Calls Tryz.prog 102 #[.slice a p.length cap] w fun r w' => ∃ (v : Value) (qs : List (SlH × List Int)), r = .returned v ∧ qs.map Prod.snd = cycK p p.length ∧ SL w.heap.size w w' (pOwn cSl 1 22 v (qs.map Prod.fst) :: qs.map inP) := by
  have hcap := hS.le
  have hm := hS.max
  refine callsIn_wide.1 (callsIn_of_wp_marks (n := 9) (F := Fence.wide) Tryz.func102 rfl trivial ?_ rfl)
  simp only [Tryz.ntmps102, List.size_toArray, List.length_cons, List.length_nil, Nat.reduceAdd, Nat.reduceSub, Array.replicate_succ, Array.replicate_zero, List.push_toArray, List.append_toArray, List.nil_append, List.cons_append]
  refine wpIn_wide.2 ?_
  have hs0 := SL.nil w
  go_wp2_with ((with_reducible refine wpList_makeL (c := cBool) (p.length) (false) E_bools cBool1 (by with_unfolding_all rfl) (by with_unfolding_all rfl) (by omega) (by omega) (hs0) ?_); intro ad w1 hs1)
  obtain ⟨Hs, hHs⟩ : ∃ x, x = w1.heap.size := ⟨_, rfl⟩
  rw [← hHs]
  have hs2 := hs1.box (.cells #[.slice ad p.length p.length] 167)
  rw [← hHs] at hs2
  have hS2 := hS.below hs2.b
  clear hs1 hHs
  refine wp_loop (fun a' wr => ∃ (k : Nat) (S : List Bool) (ov : Value) (qs : List (SlH × List Int)) (Ds : List Nat) (u5 u6 u7 u14 u15 u16 u17 u18 u19 u20 u21 u22 u23 u24 u25 u26 u27 u28 u29 u30 u31 u32 u33 u34 u35 : Value), a' = { tmps := #[.slice a p.length cap, undef, .slice none 0 0, ov, .pointer (some ⟨Hs, 0, none⟩), u5, u6, u7, .slice a p.length cap, .int .i64 p.length, .slice ad p.length p.length, .slice a p.length cap, .int .i64 p.length, .int .i64 k, u14, u15, u16, u17, u18, u19, u20, u21, u22, u23, u24, u25, u26, u27, u28, u29, u30, u31, u32, u33, u34, u35, undef], defers := Ds.map markOf } ∧ k ≤ p.length ∧ CyI w p k ad Hs S ov qs Ds wr) (fun a' _ => p.length - (intOf (a'.tmps.getD 13 undef)).toNat) ?_ ?_
  · refine ⟨0, List.replicate p.length false, .slice none 0 0, [], [], undef, undef, undef, undef, undef, undef, undef, undef, undef, undef, undef, undef, undef, undef, undef, undef, undef, undef, undef, undef, undef, undef, undef, undef, undef, rfl, Nat.zero_le _, by simp, ?_, rfl, ?_⟩
    · intro x h0 h1
      have : x.toNat < p.length := by omega
      simp [atD, cycK, this]
    · exact ((hs2.nilS (α := SlH) (e := 22) cSlS).pick [1, 2, 0] (by decide) _ rfl)
  · rintro a' wr ⟨k, S, ov, qs, Ds, u5, u6, u7, u14, u15, u16, u17, u18, u19, u20, u21, u22, u23, u24, u25, u26, u27, u28, u29, u30, u31, u32, u33, u34, u35, rfl, hk, hlen, hsn, hqs, hSL⟩
    have hSr := hS.below hSL.b
    have hqlen : (qs.map Prod.fst).length ≤ k := by
      have h1 := cycK_len p k
      rw [← hqs] at h1; simpa using h1
    by_cases hlt : k < p.length
    · have hsk := hsn k (by omega) (by omega)
      have HSN := hid hsn; clear hsn
      have HL := hid hlen; clear hlen
      have HQ := hid hqs; clear hqs
      have hsb := hSL.cell 0 rfl 0 rfl
      have hRB := hSL.rd 1 rfl
      by_cases hin : (k : Int) ∈ (cycK p k).flatten
      · rw [decide_eq_true hin] at hsk
        have HSK := hid hsk; clear hsk
        have HIN := hid hin; clear hin
        go_wp2_with ((with_reducible refine wpList_idxN _ false E_bools F_bool cBool1 (by with_unfolding_all rfl) (by with_unfolding_all rfl) (hRB) (HL.out) (by first | omega | (simp; done)) (by first | omega | (simp; done)) (fun _ => by with_unfolding_all rfl) (fun _ => ?_)); rw [HSK.out])
        refine ⟨⟨k + 1, S, ov, qs, Ds, _, _, _, _, _, _, _, _, _, _, _, _, _, _, _, _, _, _, _, _, _, _, _, _, _, rfl, by omega, HL.out, ?_, ?_, hSL⟩, by simp [intOf]; omega⟩
        · rw [cycK_in HIN.out]; exact HSN.out
        · rw [cycK_in HIN.out]; exact HQ.out
      · rw [decide_eq_false hin] at hsk
        have HSK := hid hsk; clear hsk
        have HIN := hid hin; clear hin
        go_wp2_with ((with_reducible refine wpList_idxN _ false E_bools F_bool cBool1 (by with_unfolding_all rfl) (by with_unfolding_all rfl) (hRB) (HL.out) (by first | omega | (simp; done)) (by first | omega | (simp; done)) (fun _ => by with_unfolding_all rfl) (fun pidx => ?_)); rw [HSK.out])
        refine (cycle_any _ _ _ _ _).mono ?_
        rintro e w3 ⟨rfl, rfl⟩
        go_wp2_with fail
        obtain ⟨d, hd⟩ := ord_ex hp (i := (k : Int)) (by omega) (by omega)
        have hk0 : (0 : Int) ≤ k := by omega
        have hk1 : (k : Int) < p.length := by omega
        have hS4 := (((hSL.nilS (α := Int) (e := 3) cIntS).box (.cells #[.slice none 0 0] 22)).box (.cells #[.slice a p.length cap] 22)).box (.cells #[.int .i64 k] 3)
        have hcn := hS4.cell 0 rfl 0 rfl
        have hcm := hS4.cell 1 rfl 0 rfl
        simp only [World.size_alloc] at hS4 hcn hcm
        have hmarks : ∀ D ∈ Ds, D < wr.heap.size := by
          intro D hD
          obtain ⟨i, hi, rfl⟩ := List.mem_iff_getElem.1 hD
          exact (hSL.blk (i + qs.length + 3) (k := Ds[i]) (o := .deferred (some [])) (by simp [pMark, hi, List.getElem?_append_right])).2.2
        have hokT : ∀ (lv : Value) (l : List Int) (S' : List Bool), ∀ q ∈ (pBlk (wr.heap.size + 1 + 1) (.cells #[.int .i64 k] 3) :: pBlk (wr.heap.size + 1) (.cells #[.slice a p.length cap] 22) :: pBlk wr.heap.size (.cells #[lv] 22) :: pOwn cInt 1 3 lv l ::
            pBlk Hs (.cells #[.slice ad p.length p.length] 167) :: pOwn cBool 1 4 (.slice ad p.length p.length) S' :: pOwn cSl 1 22 ov (qs.map Prod.fst) :: (qs.map inP ++ Ds.map pMark)), q.okT (wr.heap.size + 1 + 1 + 1) := by
          intro lv l S' q hq
          simp only [List.mem_cons, List.mem_map, List.mem_append] at hq
          rcases hq with rfl | rfl | rfl | rfl | rfl | rfl | rfl | ⟨z, _, rfl⟩ | ⟨D, hD, rfl⟩
          · exact okT_cells
          · exact okT_cells
          · exact okT_cells
          · exact okT_own
          · exact okT_cells
          · exact okT_own
          · exact okT_own
          · exact okT_own
          · exact okT_lt (by have := hmarks D hD; omega)
        have HOK := hid hokT; clear hokT
        have hzr := hSL.z
        have hal : ∀ b, a = some b → b.block < w.heap.size := by
          intro b e
          obtain ⟨b1, o1, e1, hc⟩ := hS.cells (by decide) 0 k hlt
          have hc := hc 0 _ rfl
          rw [e] at e1; cases e1
          have := World.block_lt_of_cell? w _ hc
          exact this
        refine (wpIn_wide (n := 9)).1 ?_
        refine wpIn_rangeFunc_ownF rfl (by decide) (gf := 183) (lb := #[.pointer (some ⟨wr.heap.size + 1 + 1, 0, none⟩), .pointer (some ⟨wr.heap.size + 1, 0, none⟩)]) rfl trivial (enters_of Tryz.func183 (by kernel_rfl) rfl)
          (cycle_stops hp hk0 hk1 8 (wr.heap.size + 1 + 1) (wr.heap.size + 1) cap a d hd hn (by decide) _ (by simp) (by simp) hcn hcm (hSr.below ((((Below.refl _ _).alloc (Nat.le_refl _) _).alloc (by simp) _).alloc (by simp; omega) _)))
          (fun h1 h2 => h1.trans h2) (fun W j o o' hj _ _ _ => ⟨World.putObj_heap_other (by simp at hj; omega), World.putObj_heap_other (by simp at hj; omega), fun b e => World.putObj_heap_other (by have := hal b e; simp at hj; omega)⟩) (Below.refl _ _) (fun _ => rfl)
          (fun pre W => pre.length ≤ p.length ∧ ∃ lv, SL w.heap.size w W (pBlk (wr.heap.size + 1 + 1) (.cells #[.int .i64 k] 3) :: pBlk (wr.heap.size + 1) (.cells #[.slice a p.length cap] 22) :: pBlk wr.heap.size (.cells #[lv] 22) :: pOwn cInt 1 3 lv (valS pre) ::
            pBlk Hs (.cells #[.slice ad p.length p.length] 167) :: pOwn cBool 1 4 (.slice ad p.length p.length) (markS S pre) :: pOwn cSl 1 22 ov (qs.map Prod.fst) :: (qs.map inP ++ Ds.map pMark)))
          (fun _ _ _ => False) ?hI (fun _ _ _ _ _ hs _ _ => hs) ⟨by simp, .slice none 0 0, hS4⟩
          (fun x => { tmps := #[.slice a p.length cap, undef, .slice none 0 0, ov, .pointer (some ⟨Hs, 0, none⟩), .int .i64 k, .pointer (some ⟨wr.heap.size, 0, none⟩), .int .i64 x.1, .slice a p.length cap, .int .i64 p.length, .slice ad p.length p.length, .slice a p.length cap, .int .i64 p.length, .int .i64 k, .bool true, .int .i64 k, .slice ad p.length p.length, .int .i64 k, pidx, .bool false, .slice a p.length cap, .int .i64 k, .func (.func 183) #[] #[.pointer (some ⟨wr.heap.size + 1 + 1, 0, none⟩), .pointer (some ⟨wr.heap.size + 1, 0, none⟩)], .int .i64 x.1, u24, u25, u26, u27, u28, u29, u30, u31, u32, u33, u34, u35, undef], defers := [] }) ?assign ?body ?done ?stop
        case hI =>
          rintro s A B row ⟨hs1, lv, hs⟩ hg hr
          exact ⟨hs1, lv, hs.turn (C := wr.heap.size + 1 + 1 + 1) (by omega) (HOK.out _ _ _) hg (fun r e => by have := hr r e; simpa using this)⟩
        case assign =>
          intro l x W K hK
          dsimp only [slotV]
          gi_wp2
          exact hK
        case body =>
          rintro q pre x W ⟨hpl, lv, hs⟩ hlt2
          have hx0 := x.2.1
          have hx1 := x.2.2
          have hml := markS_len pre S
          obtain ⟨g, hgad, -, hcell, hfr, hS5⟩ := hs.setOwn cBool1 5 rfl x.1 hx0 (by rw [hml, HL.out]; exact hx1) true
          subst hgad
          have hsb2 := hs.cell 4 rfl 0 rfl
          have hlb := hs.cell 2 rfl 0 rfl
          have hn1 : ¬ g = wr.heap.size := hs.apart 5 2 (by decide) rfl rfl own_at blk_at
          have hn2 : g ≠ wr.heap.size + 1 := hs.apart 5 1 (by decide) rfl rfl own_at blk_at
          have hn3 : g ≠ wr.heap.size + 1 + 1 := hs.apart 5 0 (by decide) rfl rfl own_at blk_at
          have hgB : w.heap.size ≤ g := ((hs.own 5 rfl).lt g rfl).1
          obtain ⟨bv, hbv⟩ : ∃ bv, W.cell? ⟨g, x.1.toNat, none⟩ = some (.bool bv) := by
            have : x.1.toNat < (markS S pre).length := by rw [hml, HL.out]; omega
            exact ⟨(markS S pre)[x.1.toNat], by rw [hcell]; simp [this, cBool]⟩
          have H2 := hid hn2; clear hn2
          have H3 := hid hn3; clear hn3
          have HML := hid hml; clear hml
          clear hcell
          obtain ⟨X, hX⟩ : ∃ X : Int, X = x.1 := ⟨_, rfl⟩
          have hvl := valS_len pre
          have hvl2 : (valS pre).length ≤ 1048576 := by omega
          clear hvl
          gi_wp2_with (((with_reducible refine wpListIn_pushL (y := _) 3 E_ints (by with_unfolding_all rfl) (by with_unfolding_all rfl) (hS5) (by with_unfolding_all rfl) cIntO ⟨rfl, rfl⟩ (by first | with_unfolding_all rfl | simp) (by with_unfolding_all rfl) (by first | omega | (simp; omega)) (by first | omega | (simp; omega)) ?_); intro v6 w6 hP hg6 _); obtain ⟨a6, c6, rfl, _⟩ := hP.slice 3 rfl; have hlb6 := hP.cell 2 rfl 0 rfl; have hlf6 := hP.frozen 2 rfl 0)
          have hne0 := hS5.ne_own 3 0 (by decide) rfl rfl
          have hne1 := hS5.ne_own 3 1 (by decide) rfl rfl
          have hob := (hS5.own 3 rfl)
          refine ⟨((KeepsOthers.setCell _ _ _).trans (KeepsOthers.of_grownBy hg6 fun j o ej hj => ?_)).trans (KeepsOthers.setCell _ _ _), ⟨?_, ?_, fun b e => ?_⟩, by simp; omega, .slice a6 (valS pre ++ [x.1]).length c6, ?_⟩
          · obtain ⟨o', h1, h2⟩ := own_isCells hob ej
            have h3 := hj.symm.trans h1
            cases h3; exact h2
          · exact ((KeepAt.set (fun e => H3.out e.symm)).trans (KeepAt.of_grown hg6 (by have := (hS5.blk 0 rfl).2.2; exact this) (fun e => hne0 e.symm))).trans (KeepAt.set (by show _ ≠ wr.heap.size; omega))
          · exact ((KeepAt.set (fun e => H2.out e.symm)).trans (KeepAt.of_grown hg6 (by have := (hS5.blk 1 rfl).2.2; exact this) (fun e => hne1 e.symm))).trans (KeepAt.set (by show _ ≠ wr.heap.size; omega))
          · have hb := hal b e
            exact ((KeepAt.set (by show _ ≠ g; omega)).trans (KeepAt.of_grown hg6 (Nat.lt_of_lt_of_le hb hS5.z) (fun e => by have := (hob.lt _ e.symm).1; omega))).trans (KeepAt.set (by show _ ≠ wr.heap.size; omega))
          · rw [valS_snoc, markS_snoc]
            have := hP.set 2 rfl 0 (.slice a6 (valS pre ++ [x.1]).length c6)
            have e : (valS pre ++ [x.1]).length = (valS pre).length + 1 := by simp
            rw [e] at this ⊢
            exact this
        case done =>
          rintro D ys W hD rfl ⟨hpl, lv, hs0⟩ hK
          have hs := hs0.addMark (C := wr.heap.size + 1 + 1 + 1) (HOK.out _ _ _) (by omega) (by simpa using hD) hK
          clear hs0
          obtain ⟨al, cl, rfl, _⟩ := hs.slice 4 rfl
          have hlb := hs.cell 3 rfl 0 rfl
          dsimp only
          go_wp2_with ((with_reducible refine wpList_pushL (y := ((al, (valS (orbS hp hk0 hk1 d)).length, cl) : SlH)) 7 E_sls (by with_unfolding_all rfl) (by with_unfolding_all rfl) (hs) (by with_unfolding_all rfl) cSlO ⟨rfl, rfl⟩ (by first | with_unfolding_all rfl | simp) (by with_unfolding_all rfl) (by first | omega | (simp; omega)) (by first | omega | (simp; omega)) ?_); intro v4 w4 hP)
          have hR1 := SL.pickA (K := [_, _, _, _, _, _, _, _]) (M := qs.map inP ++ Ds.map pMark) hP [5, 6, 7, 4, 0] (by decide) (by simp) [_, _, _, _, _] rfl
          refine ⟨⟨k + 1, markS S (orbS hp hk0 hk1 d), v4, qs ++ [((al, (valS (orbS hp hk0 hk1 d)).length, cl), valS (orbS hp hk0 hk1 d))], D :: Ds, _, _, _, _, _, _, _, _, _, _, _, _, _, _, _, _, _, _, _, _, _, _, _, _, _, rfl, by omega, ?_, ?_, ?_, ?_⟩, by simp [intOf]; omega⟩
          · rw [markS_len, HL.out]
          · intro x h0 h1
            rw [markS_at _ _ HL.out x h0, HSN.out x h0 h1, cycK_out HIN.out]
            rw [show valS (orbS hp hk0 hk1 d) = orb p k from orbS_val hp hk0 hk1 hd]
            simp
          · rw [List.map_append, HQ.out, cycK_out HIN.out]
            rw [show valS (orbS hp hk0 hk1 d) = orb p k from orbS_val hp hk0 hk1 hd]
            rfl
          · refine hR1.perm ?_
            rw [List.map_append, List.map_append]
            refine List.Perm.cons _ (List.Perm.cons _ (List.Perm.cons _ ?_))
            simp only [List.map_cons, List.map_nil, List.append_assoc, List.cons_append, List.nil_append]
            show (inP ((al, (valS (orbS hp hk0 hk1 d)).length, cl), valS (orbS hp hk0 hk1 d)) :: pMark D :: (qs.map inP ++ Ds.map pMark)).Perm _
            exact (List.perm_middle.trans (List.Perm.cons _ List.perm_middle)).symm
        case stop =>
          rintro D c pre W _ _ h _
          exact h.elim
    · have hkk : k = p.length := by omega
      have HKK := hid hkk; clear hkk
      have HQ := hid hqs; clear hqs
      clear hsn hlen
      go_wp2_with fail
      refine SL.leave' (L := pOwn cSl 1 22 ov (qs.map Prod.fst) :: qs.map inP) hSL.tail.tail fun W hW => ⟨ov, ?_, ov, qs, rfl, by rw [HQ.out, HKK.out], hW⟩
      simp [results, Tryz.f102, go_sem]
end Go.Proofs.YtmomeggnegcheaaGreatDoor
