/- Contract: write (a row's letter). Conditions: the row as described by RowAt. Contract: rowOf. Conditions: letters fit the strands, sizes as stated. -/
import Derived.Test.YtmomeggnegcheaaGreatDoorPnA
import Derived.Test.YtmomeggnegcheaaGreatDoorPlA
import Derived.Test.YtmomeggnegcheaaGreatDoorTyA
import Derived.Test.YtmomeggnegcheaaGreatDoorQA
import Derived.Deep.RegionHeld3
import Derived.Deep.AppendLies
import Derived.Deep.RegionHeldLaw
import Derived.Deep.RegionLaw
set_option linter.all false
/- Contract: write (a row's letter). Conditions: the row as described by RowAt. -/
namespace Go.Proofs.YtmomeggnegcheaaGreatDoor
open Go.RowKit
set_option maxHeartbeats 1000000
set_option maxRecDepth 100000

/-- A row in block R: its strands and its crossings, both in blocks from B on. -/
def RowAt (w : World) (R B : Nat) (st : List Int) (cr : List (Int × Int)) : Prop :=
  ∃ g cap vc, w.heap[R]? = some (.cells #[.slice (some ⟨g, 0, none⟩) st.length cap, vc] 145 (0, 0)) ∧ OwnI B w (.slice (some ⟨g, 0, none⟩) st.length cap) st ∧ OwnP B 90 w vc cr ∧ vc.ownBlock ≠ some g ∧ R < B
theorem info_cross : (Tryz.prog.info? 90).map (fun i => (i.zero, i.size, i.bytes)) = some (some (.agg #[.int .i64 0, .int .i64 0]), 2, 16) := by kernel_rfl

theorem keep_alloc {W : World} {o : Obj} {p q r : Addr} {u v t : Value} (hp : p.block < W.heap.size) (hq : q.block < W.heap.size) (hr : r.block < W.heap.size) (h1 : W.cell? p = some u) (h2 : W.cell? q = some v) (h3 : W.cell? r = some t) (h4 : W.frozen? p = false) :
    ((W.alloc o).drew).cell? p = some u ∧ ((W.alloc o).drew).cell? q = some v ∧ ((W.alloc o).drew).cell? r = some t ∧ ((W.alloc o).drew).frozen? p = false := by
  have hb : Below W.heap.size W ((W.alloc o).drew) := ((Below.refl _ _).alloc (Nat.le_refl _) _).drew
  exact ⟨(hb.cell hp).trans h1, (hb.cell hq).trans h2, (hb.cell hr).trans h3, (hb.frozen hp).trans h4⟩
/-- two neighbours exchanged. -/
def swapL (st : List Int) (k : Int) : List Int := (st.set (k - 1).toNat (atD 0 st k)).set k.toNat (atD 0 st (k - 1))
def crossOf (st : List Int) (x : Int) : Int × Int := if x < 0 then (atD 0 st (absI x), atD 0 st (absI x - 1)) else (atD 0 st (absI x - 1), atD 0 st (absI x))
theorem write_mid {W w3 : World} {o : Obj} {R B g gg cap cp : Nat} {vc : Value} {st : List Int} {cr : List (Int × Int)} {x y : Int}
    (hrow : W.heap[R]? = some (.cells #[.slice (some ⟨g, 0, none⟩) st.length cap, vc] 145 (0, 0))) (hO : OwnI B W (.slice (some ⟨g, 0, none⟩) st.length cap) st) (hsep : vc.ownBlock ≠ some g) (hR : R < B) (hB : B ≤ W.heap.size) (hCW : OwnP B 90 W vc cr)
    (hg : ((W.alloc o).drew).grownBy w3 vc.ownBlock) (hown3 : w3.ownsRow B 90 2 (.slice (some ⟨gg, 0, none⟩) (cr.length + 1) cp) (cr.length + 1) ((cr.flatMap fun x => (cPair x).cells.toList) ++ [.int .i64 x, .int .i64 y])) (hat : vc.ownBlock = some gg ∨ gg = W.heap.size + 1) :
    (w3.setCell ⟨R, 1, none⟩ (.slice (some ⟨gg, 0, none⟩) (cr.length + 1) cp)).heap[R]? = some (.cells #[.slice (some ⟨g, 0, none⟩) st.length cap, .slice (some ⟨gg, 0, none⟩) (cr.length + 1) cp] 145 (0, 0)) ∧
    OwnI B (w3.setCell ⟨R, 1, none⟩ (.slice (some ⟨gg, 0, none⟩) (cr.length + 1) cp)) (.slice (some ⟨g, 0, none⟩) st.length cap) st ∧
    OwnP B 90 (w3.setCell ⟨R, 1, none⟩ (.slice (some ⟨gg, 0, none⟩) (cr.length + 1) cp)) (.slice (some ⟨gg, 0, none⟩) (cr.length + 1) cp) (cr ++ [(x, y)]) ∧ gg ≠ g ∧
    Below R W (w3.setCell ⟨R, 1, none⟩ (.slice (some ⟨gg, 0, none⟩) (cr.length + 1) cp)) := by
  have hvR : vc.ownBlock ≠ some R := fun e => by have := (hCW.lt _ e).1; omega
  have hRl : R < W.heap.size := by omega
  have hgl := hO.lt g rfl
  have hb0 : Below W.heap.size W ((W.alloc o).drew) := ((Below.refl _ _).alloc (Nat.le_refl _) _).drew
  have hr3 : w3.heap[R]? = some (.cells #[.slice (some ⟨g, 0, none⟩) st.length cap, vc] 145 (0, 0)) :=
    (hg.block R (by show R < ((W.alloc o)).heap.size; simp; omega) (Ne.symm hvR)).trans ((hb0.block R hRl).trans hrow)
  refine ⟨?_, ?_, ?_, ?_, ?_⟩
  · rw [heap_setCell_same w3 R 1 _ _ _ hr3]; rfl
  · have h1 : OwnI B w3 (.slice (some ⟨g, 0, none⟩) st.length cap) st := ((hO.alloc o).drew).kept hg (.inr (fun e => hsep e.symm))
    exact ⟨h1.1, ownsRow_setCell_below h1.2 hR _⟩
  · refine ⟨cPairS, ?_⟩
    have := ownsRow_setCell_below hown3 (a := ⟨R, 1, none⟩) hR (.slice (some ⟨gg, 0, none⟩) (cr.length + 1) cp)
    simpa [cPair, Value.cells] using this
  · rcases hat with h | h
    · intro e; rw [e] at h; exact hsep h
    · omega
  · refine Below.setCell (p := ⟨R, 1, none⟩) ?_ (Nat.le_refl _) _
    show Below R W w3
    exact (hb0.mono (B' := R) (by omega)).grown hg (by show R ≤ ((W.alloc o)).heap.size; simp; omega) (fun j hj => by have := (hCW.lt j hj).1; omega)

theorem write_end {W W4 : World} {R B g gg cap : Nat} {st : List Int} {cr2 : List (Int × Int)} {k : Int} {vv : Value} (h1 : 1 ≤ k) (h2 : k < st.length) (hR : R < B) (hgg : vv.ownBlock = some gg)
    (m1 : W4.heap[R]? = some (.cells #[.slice (some ⟨g, 0, none⟩) st.length cap, vv] 145 (0, 0))) (m2 : OwnI B W4 (.slice (some ⟨g, 0, none⟩) st.length cap) st) (m3 : OwnP B 90 W4 vv cr2) (m4 : gg ≠ g) (m5 : Below R W W4) :
    RowAt ((W4.setCell ⟨g, (k - 1).toNat, none⟩ (.int .i64 (atD 0 st k))).setCell ⟨g, k.toNat, none⟩ (.int .i64 (atD 0 st (k - 1)))).drew R B (swapL st k) cr2 ∧ Below R W ((W4.setCell ⟨g, (k - 1).toNat, none⟩ (.int .i64 (atD 0 st k))).setCell ⟨g, k.toNat, none⟩ (.int .i64 (atD 0 st (k - 1)))).drew := by
  obtain ⟨g', eg, hgB, _, _, ho1, hg1⟩ := own_store cInt1 m2 (atD 0 st k) (k - 1) (by omega) (by omega)
  cases eg
  have ho1' : OwnI B (W4.setCell ⟨g, (k - 1).toNat, none⟩ (cInt (atD 0 st k))) (.slice (some ⟨g, 0, none⟩) (st.set (k - 1).toNat (atD 0 st k)).length cap) (st.set (k - 1).toNat (atD 0 st k)) := by simpa using ho1
  obtain ⟨g', eg, _, _, _, ho2, hg2⟩ := own_store cInt1 ho1' (atD 0 st (k - 1)) k (by omega) (by simp; omega)
  cases eg
  have hRg : R ≠ g := by omega
  have hl : (swapL st k).length = st.length := by simp [swapL]
  refine ⟨⟨g, cap, vv, ?_, ?_, ?_, ?_, hR⟩, ?_⟩
  · rw [hl]
    have e1 := hg1.block R (Array.getElem?_eq_some_iff.1 m1).1 (by simpa using hRg)
    have e2 := hg2.block R (by have := hg1.size; have := (Array.getElem?_eq_some_iff.1 m1).1; omega) (by simpa using hRg)
    exact (e2.trans e1).trans m1
  · rw [hl]
    have : OwnI B ((W4.setCell ⟨g, (k - 1).toNat, none⟩ (cInt (atD 0 st k))).setCell ⟨g, k.toNat, none⟩ (cInt (atD 0 st (k - 1)))) (.slice (some ⟨g, 0, none⟩) st.length cap) (swapL st k) := by simpa [swapL] using ho2
    exact this.drew
  · exact ((m3.kept hg1 (.inr (by rw [hgg]; simpa using m4))).kept hg2 (.inr (by rw [hgg]; simpa using m4))).drew
  · rw [hgg]; simpa using m4
  · have z1 := m5.size
    have hRl := (Array.getElem?_eq_some_iff.1 m1).1
    have b1 := m5.grown hg1 (by omega) (fun j hj => by cases hj; omega)
    exact (b1.grown hg2 (by have := hg1.size; omega) (fun j hj => by cases hj; omega)).drew

theorem write_any (R B : Nat) (x : Int) (st : List Int) (cr : List (Int × Int)) (w : World) (hR : RowAt w R B st cr) (hB : B ≤ w.heap.size) (hx : -1000 ≤ x ∧ x ≤ 1000) (h1 : 1 ≤ absI x) (h2 : absI x < st.length) (hst : st.length ≤ 1000) (hcr : cr.length ≤ 100000) :
    Calls Tryz.prog 143 #[.pointer (some ⟨R, 0, none⟩), .int .i64 x] w fun r w' => r = .returned (.tuple #[]) ∧ RowAt w' R B (swapL st (absI x)) (cr ++ [crossOf st x]) ∧ Below R w w' := by
  obtain ⟨g, cap, vc, hrow, hO, hC, hsep, hRB⟩ := hR
  obtain ⟨i0, hi0, hz0, hz1, hz2⟩ := info_parts info_cross
  have c0 : w.cell? ⟨R, 0, none⟩ = some (.slice (some ⟨g, 0, none⟩) st.length cap) := by rw [cell_of_row _ _ _ _ _ _ hrow]; rfl
  have c1 : w.cell? ⟨R, 1, none⟩ = some vc := by rw [cell_of_row _ _ _ _ _ _ hrow]; rfl
  obtain ⟨a1, cap1, e1, hS, _, _⟩ := hO.reps
  simp only [Value.slice.injEq, true_and] at e1
  obtain ⟨rfl, rfl⟩ := e1
  obtain ⟨k, hk⟩ : ∃ k, k = absI x := ⟨_, rfl⟩
  have hsz := size_any x w (by omega) (by omega)
  rw [← hk] at hsz h1 h2
  have HSZ := hid hsz; clear hsz
  have HK := hid hk; clear hk
  have HROW := hid hrow; clear hrow
  go_enter Tryz.func143, Tryz.ntmps143
  go_wp2_with fail
  refine HSZ.out.mono ?_
  rintro e w' ⟨rfl, rfl⟩
  go_wp2_with fail
  have hw1 : IntKind.i64.wrap (k - 1) = k - 1 := IntWalk.i64_in _ (by omega)
  refine wp_region_quiet_lit (by kernel_rfl) (by kernel_rfl) ?_
  repeat (first | ((with_reducible refine wpQD_idx 0 E_ints F_int cInt1 (by with_unfolding_all rfl) (by with_unfolding_all rfl) (hS) (by first | omega | (simp; done)) (by first | omega | (simp; done)) (fun _ => by with_unfolding_all rfl) (fun _ => ?_)); (try simp only [Act.put, List.setIfInBounds_toArray, List.set_cons_zero, List.set_cons_succ]); (try simp only [cInt])) | quiet_step (fail))
  refine wpQuiet_nil ?_
  intro w2 hb2
  replace hb2 := below_drewN hb2
  clear hw1
  have HC2 := hid (hC.below hb2)
  have HO2 := hid (hO.below hb2)
  have hRl : R < w.heap.size := by omega
  have hrow2 : w2.heap[R]? = some (.cells #[.slice (some ⟨g, 0, none⟩) st.length cap, vc] 145 (0, 0)) := (hb2.block R hRl).trans HROW.out
  have hb2s := hb2.size
  have HROW2 := hid hrow2; clear hrow2
  by_cases hneg : x < 0
  · have hX : crossOf st x = (atD 0 st k, atD 0 st (k - 1)) := by rw [crossOf, if_pos hneg, ← HK.out]
    have HX := hid hX; clear hX
    go_wp2_with fail
    obtain ⟨W, hW⟩ : ∃ W, W = (w2.alloc (.cells #[.int .i64 (atD 0 st k), .int .i64 (atD 0 st (k - 1))] 90)) := ⟨_, rfl⟩
    rw [← hW]
    have d1 : W.cell? ⟨R, 1, none⟩ = some vc := by rw [hW, cell_of_row _ R 1 #[.slice (some ⟨g, 0, none⟩) st.length cap, vc] 145 (0, 0) (by rw [Below.heap_alloc _ _ _ (by omega)]; exact HROW2.out)]; rfl
    have f1 : W.frozen? ⟨R, 1, none⟩ = false := by rw [hW]; exact frozen_of_row _ R 1 #[.slice (some ⟨g, 0, none⟩) st.length cap, vc] 145 (by rw [Below.heap_alloc _ _ _ (by omega)]; exact HROW2.out)
    have b0 : W.cell? ⟨w2.heap.size, 0, none⟩ = some (.int .i64 (atD 0 st k)) := by rw [hW]; simp [go_sem]
    have b1 : W.cell? ⟨w2.heap.size, 1, none⟩ = some (.int .i64 (atD 0 st (k - 1))) := by rw [hW]; simp [go_sem]
    have hCW : OwnP B 90 W vc cr := by rw [hW]; exact HC2.out.alloc _
    have hWs : W.heap.size = w2.heap.size + 1 := by rw [hW]; simp
    have hrowW : W.heap[R]? = some (.cells #[.slice (some ⟨g, 0, none⟩) st.length cap, vc] 145 (0, 0)) := by rw [hW, Below.heap_alloc _ _ _ (by omega)]; exact HROW2.out
    have hOW : OwnI B W (.slice (some ⟨g, 0, none⟩) st.length cap) st := by rw [hW]; exact HO2.out.alloc _
    have BW := hid (show Below R w W by rw [hW]; exact ((hb2.mono (B' := R) (by omega)).alloc (by omega) _))
    obtain ⟨bx, hbx⟩ : ∃ bx, bx = w2.heap.size := ⟨_, rfl⟩
    rw [← hbx] at b0 b1 hWs ⊢
    have HW := hid hW; clear hW
    have HROWW := hid hrowW; clear hrowW
    have HOWW := hid hOW; clear hOW
    have HBX := hid hbx; clear hbx
    have HWS := hid hWs; clear hWs
    have hlt1 : B ≤ W.heap.size := by rw [HWS.out, HBX.out]; omega
    have hlt2 : bx < W.heap.size := by rw [HWS.out]; omega
    have hltR : R < W.heap.size := by omega
    have hne1 : vc.ownBlock ≠ some R := fun e => by have := (hCW.lt _ e).1; omega
    have hne2 : vc.ownBlock ≠ some bx := fun e => by have := (HC2.out.lt _ e).2; rw [HBX.out] at this; omega
    have hcrl : cr.length + 1 ≤ maxLen := by unfold maxLen; omega
    go_region_law
      ((refine step_append_lies _ (by rfl) _ _ _ (by rfl) B 90 i0 _ 2 16 Tryz.underlying81 hi0 hz0 hz1 hz2 rfl (by omega) vc cr.length _ (by rfl) ((hCW.2.alloc _).drew) ⟨W.heap.size, 0, none⟩ 1 1 [.int .i64 (atD 0 st k), .int .i64 (atD 0 st (k - 1))] (by rfl) (by rfl) (World.news_of_block (cs := #[.int .i64 (atD 0 st k), .int .i64 (atD 0 st (k - 1))]) (t := 90) (fr := (0, 0)) (heap_alloc_new W _)) (by simp [Value.oneCell']) (by omega) hcrl (by omega) (by simp; omega) (W.heap.size + 1) (by simp) ?_; intro gg cp w3 hown3 hgrow3 hat3 hlt3; have e1 := hgrow3.cell_far ⟨R, 1, none⟩ (by simp; omega) (Ne.symm hne1); have e2 := hgrow3.frozen_far ⟨R, 1, none⟩ (by simp; omega) (Ne.symm hne1); simp [d1, f1, hltR] at e1 e2))
    all_goals
      have hmid := write_mid (W := W) HROWW.out HOWW.out hsep hRB hlt1 hCW hgrow3 hown3 hat3
      obtain ⟨m1, m2, m3, m4, m5⟩ := hmid
      generalize w3.setCell ⟨R, 1, none⟩ (.slice (some ⟨gg, 0, none⟩) (cr.length + 1) cp) = W4 at *
      clear e1 e2 hown3 hgrow3
      have M := hid (And.intro m1 (And.intro m2 (And.intro m3 (And.intro m4 m5))))
      have q0 : W4.cell? ⟨R, 0, none⟩ = some (.slice (some ⟨g, 0, none⟩) st.length cap) := by rw [cell_of_row _ _ _ _ _ _ m1]; rfl
      obtain ⟨g', eg, _, hck, hfk, _⟩ := own_store cInt1 m2 0 k (by omega) (by omega)
      cases eg
      obtain ⟨g', eg, _, hck1, hfk1, _⟩ := own_store cInt1 m2 0 (k - 1) (by omega) (by omega)
      cases eg
      have ek : (k - 1).toNat = k.toNat - 1 := by omega
      rw [ek] at hck1 hfk1
      have EK := hid ek; clear ek
      obtain ⟨vk, hvk⟩ := Option.isSome_iff_exists.1 hck
      obtain ⟨vk1, hvk1⟩ := Option.isSome_iff_exists.1 hck1
      clear m1 m2 m3 m4 m5 hck hck1
      obtain ⟨vf, hvf⟩ := cell?_setCell_some (w := W4) (p := ⟨g, k.toNat - 1, none⟩) (x := .int .i64 (atD 0 st k)) (q := ⟨g, k.toNat, none⟩) (v := vk) hvk
      have hnx : ¬ R = g := by have := HOWW.out.lt g rfl; omega
      have hkl : k - 1 < (st.length : Int) := by omega
      have hnx2 : ¬ g = R := fun h => hnx h.symm
      go_wp2_with fail
      have hw1 : IntKind.i64.wrap (k - 1) = k - 1 := IntWalk.i64_in _ (by omega)
      go_region
      clear hw1
      go_wp2_with fail
      go_end0
      have hE := write_end h1 h2 hRB rfl M.out.1 M.out.2.1 M.out.2.2.1 M.out.2.2.2.1 (BW.out.trans M.out.2.2.2.2)
      rw [EK.out] at hE
      refine ⟨rfl, ?_, ?_⟩
      · rw [← HK.out, HX.out]; exact hE.1
      · exact hE.2
  · have hX : crossOf st x = (atD 0 st (k - 1), atD 0 st k) := by rw [crossOf, if_neg hneg, ← HK.out]
    have HX := hid hX; clear hX
    go_wp2_with fail
    obtain ⟨W, hW⟩ : ∃ W, W = (w2.alloc (.cells #[.int .i64 (atD 0 st (k - 1)), .int .i64 (atD 0 st k)] 90)) := ⟨_, rfl⟩
    rw [← hW]
    have d1 : W.cell? ⟨R, 1, none⟩ = some vc := by rw [hW, cell_of_row _ R 1 #[.slice (some ⟨g, 0, none⟩) st.length cap, vc] 145 (0, 0) (by rw [Below.heap_alloc _ _ _ (by omega)]; exact HROW2.out)]; rfl
    have f1 : W.frozen? ⟨R, 1, none⟩ = false := by rw [hW]; exact frozen_of_row _ R 1 #[.slice (some ⟨g, 0, none⟩) st.length cap, vc] 145 (by rw [Below.heap_alloc _ _ _ (by omega)]; exact HROW2.out)
    have b0 : W.cell? ⟨w2.heap.size, 0, none⟩ = some (.int .i64 (atD 0 st (k - 1))) := by rw [hW]; simp [go_sem]
    have b1 : W.cell? ⟨w2.heap.size, 1, none⟩ = some (.int .i64 (atD 0 st k)) := by rw [hW]; simp [go_sem]
    have hCW : OwnP B 90 W vc cr := by rw [hW]; exact HC2.out.alloc _
    have hWs : W.heap.size = w2.heap.size + 1 := by rw [hW]; simp
    have hrowW : W.heap[R]? = some (.cells #[.slice (some ⟨g, 0, none⟩) st.length cap, vc] 145 (0, 0)) := by rw [hW, Below.heap_alloc _ _ _ (by omega)]; exact HROW2.out
    have hOW : OwnI B W (.slice (some ⟨g, 0, none⟩) st.length cap) st := by rw [hW]; exact HO2.out.alloc _
    have BW := hid (show Below R w W by rw [hW]; exact ((hb2.mono (B' := R) (by omega)).alloc (by omega) _))
    obtain ⟨bx, hbx⟩ : ∃ bx, bx = w2.heap.size := ⟨_, rfl⟩
    rw [← hbx] at b0 b1 hWs ⊢
    have HW := hid hW; clear hW
    have HROWW := hid hrowW; clear hrowW
    have HOWW := hid hOW; clear hOW
    have HBX := hid hbx; clear hbx
    have HWS := hid hWs; clear hWs
    have hlt1 : B ≤ W.heap.size := by rw [HWS.out, HBX.out]; omega
    have hlt2 : bx < W.heap.size := by rw [HWS.out]; omega
    have hltR : R < W.heap.size := by omega
    have hne1 : vc.ownBlock ≠ some R := fun e => by have := (hCW.lt _ e).1; omega
    have hne2 : vc.ownBlock ≠ some bx := fun e => by have := (HC2.out.lt _ e).2; rw [HBX.out] at this; omega
    have hcrl : cr.length + 1 ≤ maxLen := by unfold maxLen; omega
    go_region_law
      ((refine step_append_lies _ (by rfl) _ _ _ (by rfl) B 90 i0 _ 2 16 Tryz.underlying81 hi0 hz0 hz1 hz2 rfl (by omega) vc cr.length _ (by rfl) ((hCW.2.alloc _).drew) ⟨W.heap.size, 0, none⟩ 1 1 [.int .i64 (atD 0 st (k - 1)), .int .i64 (atD 0 st k)] (by rfl) (by rfl) (World.news_of_block (cs := #[.int .i64 (atD 0 st (k - 1)), .int .i64 (atD 0 st k)]) (t := 90) (fr := (0, 0)) (heap_alloc_new W _)) (by simp [Value.oneCell']) (by omega) hcrl (by omega) (by simp; omega) (W.heap.size + 1) (by simp) ?_; intro gg cp w3 hown3 hgrow3 hat3 hlt3; have e1 := hgrow3.cell_far ⟨R, 1, none⟩ (by simp; omega) (Ne.symm hne1); have e2 := hgrow3.frozen_far ⟨R, 1, none⟩ (by simp; omega) (Ne.symm hne1); simp [d1, f1, hltR] at e1 e2))
    all_goals
      have hmid := write_mid (W := W) HROWW.out HOWW.out hsep hRB hlt1 hCW hgrow3 hown3 hat3
      obtain ⟨m1, m2, m3, m4, m5⟩ := hmid
      generalize w3.setCell ⟨R, 1, none⟩ (.slice (some ⟨gg, 0, none⟩) (cr.length + 1) cp) = W4 at *
      clear e1 e2 hown3 hgrow3
      have M := hid (And.intro m1 (And.intro m2 (And.intro m3 (And.intro m4 m5))))
      have q0 : W4.cell? ⟨R, 0, none⟩ = some (.slice (some ⟨g, 0, none⟩) st.length cap) := by rw [cell_of_row _ _ _ _ _ _ m1]; rfl
      obtain ⟨g', eg, _, hck, hfk, _⟩ := own_store cInt1 m2 0 k (by omega) (by omega)
      cases eg
      obtain ⟨g', eg, _, hck1, hfk1, _⟩ := own_store cInt1 m2 0 (k - 1) (by omega) (by omega)
      cases eg
      have ek : (k - 1).toNat = k.toNat - 1 := by omega
      rw [ek] at hck1 hfk1
      have EK := hid ek; clear ek
      obtain ⟨vk, hvk⟩ := Option.isSome_iff_exists.1 hck
      obtain ⟨vk1, hvk1⟩ := Option.isSome_iff_exists.1 hck1
      clear m1 m2 m3 m4 m5 hck hck1
      obtain ⟨vf, hvf⟩ := cell?_setCell_some (w := W4) (p := ⟨g, k.toNat - 1, none⟩) (x := .int .i64 (atD 0 st k)) (q := ⟨g, k.toNat, none⟩) (v := vk) hvk
      have hnx : ¬ R = g := by have := HOWW.out.lt g rfl; omega
      have hkl : k - 1 < (st.length : Int) := by omega
      have hnx2 : ¬ g = R := fun h => hnx h.symm
      go_wp2_with fail
      have hw1 : IntKind.i64.wrap (k - 1) = k - 1 := IntWalk.i64_in _ (by omega)
      go_region
      clear hw1
      go_wp2_with fail
      go_end0
      have hE := write_end h1 h2 hRB rfl M.out.1 M.out.2.1 M.out.2.2.1 M.out.2.2.2.1 (BW.out.trans M.out.2.2.2.2)
      rw [EK.out] at hE
      refine ⟨rfl, ?_, ?_⟩
      · rw [← HK.out, HX.out]; exact hE.1
      · exact hE.2
end Go.Proofs.YtmomeggnegcheaaGreatDoor

/- Contract: rowOf. Conditions: letters fit the strands, sizes as stated. -/
namespace Go.Proofs.YtmomeggnegcheaaGreatDoor
open Go.RowKit
set_option maxHeartbeats 1000000
set_option maxRecDepth 100000

theorem far_cell {w w3 : World} {o : Obj} {row : Option Nat} (hg : (w.alloc o).grownBy w3 row) {p : Addr} {v : Value} (h : w.cell? p = some v) (hne : row ≠ some p.block) : w3.cell? p = some v := by
  have hl := World.block_lt_of_cell? w _ h
  have hb : Below w.heap.size w (w.alloc o) := (Below.refl _ _).alloc (Nat.le_refl _) _
  rw [hg.cell_far p (by simp; omega) (Ne.symm hne), hb.cell hl, h]
theorem far_frozen {w w3 : World} {o : Obj} {row : Option Nat} (hg : (w.alloc o).grownBy w3 row) {p : Addr} {v : Value} {b : Bool} (h : w.cell? p = some v) (hf : w.frozen? p = b) (hne : row ≠ some p.block) : w3.frozen? p = b := by
  have hl := World.block_lt_of_cell? w _ h
  have hb : Below w.heap.size w (w.alloc o) := (Below.refl _ _).alloc (Nat.le_refl _) _
  rw [hg.frozen_far p (by simp; omega) (Ne.symm hne), hb.frozen hl, hf]

def rowGo : List Int → List (Int × Int) → List Int → List Int × List (Int × Int)
  | st, cr, [] => (st, cr)
  | st, cr, x :: r => rowGo (swapL st (absI x)) (cr ++ [crossOf st x]) r
def startL (n : Nat) : List Int := (List.range n).map fun (i : Nat) => (i : Int) + 1
theorem startL_succ (n : Nat) : startL (n + 1) = startL n ++ [(n : Int) + 1] := by simp [startL, List.range_succ]
theorem startL_len (n : Nat) : (startL n).length = n := by simp [startL]
def rowL (n : Nat) (ws : List Int) : List Int × List (Int × Int) := rowGo (startL n) [] ws
theorem swapL_len (st : List Int) (k : Int) : (swapL st k).length = st.length := by simp [swapL]
def fitsW (n : Nat) (ws : List Int) : Prop := ∀ x ∈ ws, -1000 ≤ x ∧ x ≤ 1000 ∧ 1 ≤ absI x ∧ absI x < n
theorem rowGo_step (st : List Int) (cr : List (Int × Int)) (ws : List Int) (k : Nat) (h : k < ws.length) : rowGo st cr (ws.drop k) = rowGo (swapL st (absI (atD 0 ws k))) (cr ++ [crossOf st (atD 0 ws k)]) (ws.drop (k + 1)) := by
  have e2 : atD 0 ws k = ws[k] := by simp [atD, h]
  rw [List.drop_eq_getElem_cons h, rowGo, e2]

theorem rowOf_any (n : Nat) (a : Option Addr) (cap : Nat) (ws : List Int) (w : World) (hS : Ints w a cap ws) (hn : 1 ≤ n) (hn2 : n ≤ 100) (hws : ws.length ≤ 100000) (hf : fitsW n ws) :
    Calls Tryz.prog 93 #[.int .i64 n, .slice a ws.length cap] w fun r w' => r = .returned (.pointer (some ⟨w.heap.size, 0, none⟩)) ∧ RowAt w' w.heap.size (w.heap.size + 1) (rowL n ws).1 (rowL n ws).2 ∧ Below w.heap.size w w' := by
  have hcap := hS.le
  have hm := hS.max
  have HF := hid hf; clear hf
  go_enter Tryz.func93, Tryz.ntmps93
  go_wp2_with fail
  go_loopw [13, 6] (fun i _ wr => ∃ (k : Nat) (vs : Value), k ≤ n ∧ i = .int .i64 k ∧ wr.heap[w.heap.size]? = some (.cells #[vs, .slice none 0 0] 145 (0, 0)) ∧ OwnI (w.heap.size + 1) wr vs (startL k) ∧ Below w.heap.size w wr ∧ w.heap.size + 1 ≤ wr.heap.size) (fun i _ _ => n - (intOf i).toNat)
  case atStart => exact ⟨0, .slice none 0 0, by omega, rfl, heap_alloc_new w _, own_nil cIntS, bal (Below.refl _ _) _, by simp⟩
  case round =>
    obtain ⟨k, vs, hk, rfl, hrow, hO, hbr, hsz⟩ := hrel
    have hle : (startL k).length ≤ 100 := by rw [startL_len]; exact Nat.le_trans hk hn2
    have c0 : wr.cell? ⟨w.heap.size, 0, none⟩ = some vs := by rw [cell_of_row _ _ _ _ _ _ hrow]; rfl
    have f0 : wr.frozen? ⟨w.heap.size, 0, none⟩ = false := frozen_of_row _ _ _ _ _ hrow
    have HROW := hid hrow; clear hrow
    by_cases hlt : k < n
    · have hsu := startL_succ k
      have HSU := hid hsu; clear hsu
      have hnv : vs.ownBlock ≠ some w.heap.size := fun e => by have := (hO.lt _ e).1; omega
      have HNV := hid hnv; clear hnv
      go_wp2_with (first | (((with_reducible refine wpList_app (l := (startL k)) (ys := [((k : Int) + 1)]) E_ints (by with_unfolding_all rfl) (by with_unfolding_all rfl) ((hO).alloc _) (reps_new1 cIntS (((k : Int) + 1)) _ _ (by simp) rfl) cIntO (by simp; omega) (by first | omega | (simp; omega)) (by simp; omega) ?_); intro v3 w3 ho3 hg3 hat3); have e1 := far_cell hg3 c0 HNV.out; have e2 := far_frozen hg3 c0 f0 HNV.out; obtain ⟨a3, cap3, rfl, _, _, _⟩ := ho3.reps))
      have hr3 : w3.heap[w.heap.size]? = some (.cells #[vs, .slice none 0 0] 145 (0, 0)) := (hg3.block _ (by simp; omega) (Ne.symm HNV.out)).trans ((Below.heap_alloc _ _ _ (by omega)).trans HROW.out)
      have b3 := below_own' (bal hbr (.cells #[.int .i64 ((k : Int) + 1)] 3)) hg3 (hO.alloc _) (by omega) (by simp; omega)
      have z3 := hg3.size
      simp at z3
      refine ⟨⟨k + 1, .slice a3 ((startL k).length + 1) cap3, by omega, by go_num, by rw [heap_setCell_same w3 _ 0 _ _ _ hr3]; rfl, ?_, Below.setCell (p := ⟨w.heap.size, 0, none⟩) b3 (Nat.le_refl _) _, by simp [World.setCell]; omega⟩, by simp [intOf]; omega⟩
      rw [HSU.out]
      have h1 := ho3
      simp at h1
      exact ⟨h1.1, ownsRow_setCell_below h1.2 (by show w.heap.size < _; omega) _⟩
    · have : k = n := by omega
      subst this
      have hO2 := hO
      rw [show (startL k).length = k from startL_len k] at hle
      obtain ⟨av, capv, rfl, hrv, hav, _⟩ := hO.reps
      obtain ⟨g, o, rfl, _⟩ := hrv.cells (by decide) 0 0 (by rw [startL_len]; omega)
      obtain ⟨g', eg, hgB, _⟩ := own_store cInt1 hO 0 0 (by omega) (by rw [startL_len]; omega)
      cases eg
      have hRA : RowAt wr w.heap.size (w.heap.size + 1) (startL k) [] := ⟨g, capv, .slice none 0 0, HROW.out, hO, own_nil cPairS, by simp [Value.ownBlock], by omega⟩
      have hSr := hS.below hbr
      clear hO hO2 hrv hav c0 f0
      have HRA := hid hRA; clear hRA
      go_wp2_with fail
      obtain ⟨wo, hwo⟩ : ∃ wo, wo = wr := ⟨_, rfl⟩
      go_loopw [32, 9] (fun i _ wq => ∃ (j : Nat) (st : List Int) (cr : List (Int × Int)), j ≤ ws.length ∧ i = .int .i64 j ∧ st.length = k ∧ cr.length = j ∧ RowAt wq w.heap.size (w.heap.size + 1) st cr ∧ rowGo st cr (ws.drop j) = rowL k ws ∧ Below w.heap.size w wq ∧ w.heap.size + 1 ≤ wq.heap.size) (fun i _ _ => ws.length - (intOf i).toNat)
      case atStart => exact ⟨0, startL k, [], by omega, rfl, startL_len k, rfl, HRA.out, rfl, hbr, hsz⟩
      case round =>
        obtain ⟨j, st, cr, hj, rfl, hst, hcr, hRow, hgo, hbq, hq⟩ := hrel
        have hSq := hS.below hbq
        have HST := hid hst; clear hst
        have HCR := hid hcr; clear hcr
        by_cases hlt2 : j < ws.length
        · have hstep := rowGo_step st cr ws j hlt2
          rw [hgo] at hstep
          have HSTEP := hid hstep; clear hstep hgo
          have hfx := HF.out (atD 0 ws j) (by simp [atD, hlt2])
          have hw := write_any w.heap.size (w.heap.size + 1) (atD 0 ws j) st cr wr hRow hq ⟨hfx.1, hfx.2.1⟩ hfx.2.2.1 (by rw [HST.out]; exact hfx.2.2.2) (by rw [HST.out]; omega) (by rw [HCR.out]; omega)
          have HW := hid hw; clear hw hfx hRow
          go_wp2_with (first | (with_reducible refine wpList_idx _ 0 E_ints F_int cInt1 (by with_unfolding_all rfl) (by with_unfolding_all rfl) (hSq) (by first | omega | (simp; done)) (by first | omega | (simp; done)) (fun _ => by with_unfolding_all rfl) (fun _ => ?_)) | (go_at_call 143; refine HW.out.mono ?_; rintro e w5 ⟨rfl, hrow5, hb5⟩))
          have z5 := hb5.size
          refine ⟨⟨j + 1, _, _, by omega, by go_num, by rw [swapL_len]; exact HST.out, by rw [List.length_append, HCR.out]; rfl, hrow5, HSTEP.out.symm, hbq.trans hb5, by omega⟩, by simp [intOf]; omega⟩
        · have : j = ws.length := by omega
          subst this
          have e : rowGo st cr (ws.drop ws.length) = (st, cr) := by simp [rowGo]
          rw [e] at hgo
          have HGO := hid hgo; clear hgo e
          go_wp2_with fail
          go_ret
          exact ⟨rfl, by rw [← HGO.out]; exact hRow, hbq⟩
end Go.Proofs.YtmomeggnegcheaaGreatDoor
