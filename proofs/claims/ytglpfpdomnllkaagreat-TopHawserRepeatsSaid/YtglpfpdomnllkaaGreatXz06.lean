/- Contracts and plain facts that the claim uses (BsD BsE BsF RUA MbF QrP MbQ MbR MbS QrQ). Conditions: as each one states. -/
import Derived.Test.YtglpfpdomnllkaaGreatProg
import Derived.WalkKit
import Derived.WalkSpells
import Derived.Maps.AppendAt
import Derived.Deep.Quiet
import Derived.Maps.Own
import Derived.Maps.OwnSet
import Derived.Maps.Views
import Derived.WalkLawsBesides
import Derived.Laws.EntriesVeiled
import Derived.Deep.QuietTactic
import Derived.BigQuiet
import Derived.Deep.RegionHeld3
import Derived.Deep.AppendLies
import Derived.Deep.RegionHeldLaw
import Derived.Deep.RegionLaw
import Derived.RangeFuncNested
import Derived.RangeFuncBound
import Derived.RangeFuncCalls
import Derived.RangeFuncLeaves
import Derived.RangeFuncFrom
import Derived.Shelf.Abstract
import Derived.Shelf.RegionOpen
import Derived.OwnWalkIn
import Derived.TacticsInMore
import Derived.LoopNIn
import Derived.LoopIn
import Derived.Shelf.Strings.Trim
import Derived.Shelf.Strings.SlTrimAscii
import Derived.Shelf.Strings.Repeat
import Derived.Shelf.Strings.OnBuilder
import Derived.Shelf.Strconv.Itoa1
import Derived.Shelf.Strconv.Itoa3
import Derived.Shelf.LaysM
import Derived.Ground.Names2Prog
import Derived.Lib.OthersKept
import Derived.StillTail
import Derived.Laws.Tables
import Derived.IntWalk
import Derived.Laws.CopyOwn
import Derived.BigRegion
import Derived.ChangeAlike
import Derived.Shelf.Bits.Mul64
import Derived.Lib.ItoaLen
import Derived.Lib.ItoaMem
import Derived.Sort.LoopGhostIn
import Derived.Maps.RangeWalk
import Derived.Maps.Ext
import Derived.Deep.LoopGhost
import Derived.Laws.IdiomStrings
import Derived.Test.YtglpfpdomnllkaaGreatXz01
import Derived.Test.YtglpfpdomnllkaaGreatXz02
import Derived.Test.YtglpfpdomnllkaaGreatXz03
import Derived.Test.YtglpfpdomnllkaaGreatXz04
import Derived.Test.YtglpfpdomnllkaaGreatXz05
set_option linter.all false

namespace Go.Proofs.YtglpfpdomnllkaaGreat
open Go.RowKit
set_option maxHeartbeats 8000000
set_option maxRecDepth 100000
section
variable {B : Nat} {w0 w : World}
/-- a piece takes the place of another one. -/
theorem SL.replace {A R : List Pc} {p : Pc} (h : SL B w0 w (p :: (A ++ R))) (k : Nat) (hk : k < R.length) : SL B w0 w (A ++ R.set k p) := by
 refine h.pick ((List.range A.length).map (fun j => j + 1) ++ (List.range R.length).map (fun j => if j = k then 0 else A.length + 1 + j)) ?_ _ ?_
 ·rw [List.nodup_append]
  refine ⟨?_, ?_, ?_⟩
  ·exact List.pairwise_map.2 (List.nodup_range.imp fun h e => h (by omega))
  ·exact List.pairwise_map.2 (List.nodup_range.imp fun h e => h (by split at e <;> split at e <;> omega))
  ·intro a ha b hb e
   obtain ⟨x, hx, rfl⟩ := List.mem_map.1 ha
   obtain ⟨y, hy, rfl⟩ := List.mem_map.1 hb
   have := List.mem_range.1 hx
   split at e <;> omega
 ·rw [List.map_append, List.map_append, List.map_map, List.map_map]
  congr 1
  ·refine List.ext_getElem? fun i => ?_
   rw [List.getElem?_map, List.getElem?_map]
   by_cases hi : i < A.length
   ·rw [List.getElem?_range hi]
    simp only [Option.map_some, Function.comp]
    rw [List.getElem?_cons_succ, List.getElem?_append_left hi, List.getElem?_eq_getElem hi]
    rfl
   ·rw [List.getElem?_eq_none (by simp; omega), List.getElem?_eq_none (by omega)]; rfl
  ·refine List.ext_getElem? fun i => ?_
   rw [List.getElem?_map, List.getElem?_map]
   by_cases hi : i < R.length
   ·rw [List.getElem?_range hi, List.getElem?_set]
    simp only [Option.map_some, Function.comp]
    by_cases e : i = k
    ·rw [if_pos e, if_pos e.symm, if_pos (by omega)]
     rfl
    ·rw [if_neg e, if_neg (fun h => e h.symm), show A.length + 1 + i = (A.length + i) + 1 by omega, List.getElem?_cons_succ, List.getElem?_append_right (by omega), Nat.add_sub_cancel_left, List.getElem?_eq_getElem hi]
     rfl
   ·rw [List.getElem?_eq_none (by simp; omega), List.getElem?_eq_none (by simp; omega)]; rfl
/-- a row of an owned list of lists. -/
theorem fx_row {pre : List Pc} {H : List SlH} {X : List (List Int)} {n : Nat} (h : SL B w0 w (pre ++ (mxQ H X).map inP)) (hH : H.length = X.length) (hX : ∀ r ∈ X, r.length = n) {k : Nat} (hk : k < X.length) :
  ∃ a c, atD ((none, 0, 0) : SlH) H (k : Int) = (a, n, c) ∧ Ints w a c (nth X k) := by
 have haH : k < H.length := by omega
 have eH : atD ((none, 0, 0) : SlH) H (k : Int) = H[k] := by simp [atD, haH]
 have eM : nth X k = X[k] := by simp [nth, atD, hk]
 have hi : (pre ++ (mxQ H X).map inP)[pre.length + k]? = some (pOwn cInt 1 3 (cSl H[k]) X[k]) := by
  rw [List.getElem?_append_right (by omega), Nat.add_sub_cancel_left, List.getElem?_map]
  unfold mxQ
  rw [List.getElem?_eq_getElem (by rw [List.length_zip]; omega), List.getElem_zip]
  rfl
 obtain ⟨ad, c, e1, hR⟩ := h.slice _ hi
 have hrl : (X[k]).length = n := hX _ (List.getElem_mem _)
 have e2 : H[k] = (ad, n, c) := by
  generalize H[k] = q at e1 ⊢
  obtain ⟨x1, x2, x3⟩ := q
  simp only [cSl, Value.slice.injEq] at e1
  obtain ⟨rfl, rfl, rfl⟩ := e1
  rw [hrl]
 exact ⟨ad, c, by rw [eH, e2], by rw [eM]; exact hR⟩
/-- the pieces of the factors: the box, the handles, the rows. -/
def PL (Bx G m cp : Nat) (H : List SlH) (X : List (List Int)) : List Pc := [pBlk Bx (.cells #[.slice (some ⟨G, 0, none⟩) m cp] 158), pOwn cSl 1 115 (.slice (some ⟨G, 0, none⟩) m cp) H] ++ (mxQ H X).map inP
theorem zip_set2 : ∀ (H : List SlH) (M : List (List Int)) (i : Nat) (x : SlH) (v : List Int), (H.set i x).zip (M.set i v) = (H.zip M).set i (x, v)
 | [], _, _, _, _ => by simp
 | x :: H, [], i, _, v => by cases i <;> simp
 | x :: H, m :: M, 0, _, v => rfl
 | x :: H, m :: M, i + 1, y, v => by
   simp only [List.set_cons_succ, List.zip_cons_cons]
   rw [zip_set2 H M i y v]
/-- two rows are new. -/
theorem pull_pieces {Bx G m cp : Nat} {H : List SlH} {X : List (List Int)} {k : Nat} {x1 x2 : SlH} {r1 r2 : List Int} (hH : H.length = X.length) (hk : k + 1 < X.length)
  (h : SL B w0 w (pOwn cInt 1 3 (cSl x2) r2 :: ([pOwn cInt 1 3 (cSl x1) r1, pBlk Bx (.cells #[.slice (some ⟨G, 0, none⟩) m cp] 158), pOwn cSl 1 115 (.slice (some ⟨G, 0, none⟩) m cp) ((H.set k x1).set (k + 1) x2)] ++ (mxQ H X).map inP))) :
  SL B w0 w (PL Bx G m cp ((H.set k x1).set (k + 1) x2) ((X.set k r1).set (k + 1) r2)) := by
 have hl : ((mxQ H X).map inP).length = X.length := by unfold mxQ; rw [List.length_map, List.length_zip]; omega
 have h1 := h.replace (k + 1) (by omega)
 have h2 : SL B w0 w (pOwn cInt 1 3 (cSl x1) r1 :: ([pBlk Bx (.cells #[.slice (some ⟨G, 0, none⟩) m cp] 158), pOwn cSl 1 115 (.slice (some ⟨G, 0, none⟩) m cp) ((H.set k x1).set (k + 1) x2)] ++ ((mxQ H X).map inP).set (k + 1) (pOwn cInt 1 3 (cSl x2) r2))) := h1
 have h3 := h2.replace k (by rw [List.length_set]; omega)
 have e : (mxQ ((H.set k x1).set (k + 1) x2) ((X.set k r1).set (k + 1) r2)).map inP = (((mxQ H X).map inP).set (k + 1) (pOwn cInt 1 3 (cSl x2) r2)).set k (pOwn cInt 1 3 (cSl x1) r1) := by
  unfold mxQ
  rw [zip_set2, zip_set2, List.map_set, List.map_set, List.set_comm _ _ (by omega)]
  rfl
 unfold PL
 rw [e]
 exact h3
end
theorem sto_smp (u : SlH) (w : World) (p : Addr) (h1 : (w.cell? p).isSome = true) (h2 : w.frozen? p = false) : (Instr.storeAt 115 (.pointer (some p)) (cSl u)).run Tryz.prog w = .ok () (w.setCell p (cSl u)) := by
 obtain ⟨v, hv⟩ := Option.isSome_iff_exists.1 h1
 simp [go_sem, hv, h2]
theorem get_mapS {l : List SlH} {k : Nat} {x : SlH} (h1 : k < l.length) (e : atD ((none, 0, 0) : SlH) l (k : Int) = x) : l[k]?.map cSl = some (cSl x) := by
 rw [← e]
 simp [atD, h1]
theorem push1_any {B : Nat} {w0 w : World} {Bx G m cp n : Nat} {H : List SlH} {X : List (List Int)} (hS : SL B w0 w (PL Bx G m cp H X)) (hH : H.length = m) (hX : X.length = m) (hv : ∀ x ∈ X, VP n x) (hn1 : 1 ≤ n) (hn : n ≤ 1000) (hm : m ≤ 1000) (k : Nat) (hk : k + 1 < m) :
  Calls Tryz.prog 169 #[.int .i64 k, .pointer (some ⟨Bx, 0, none⟩)] w fun r w' => (folP n (nth X k) (nth X (k + 1)) = none → r = .returned (.bool false) ∧ SL B w0 w' (PL Bx G m cp H X)) ∧
   (∀ i, folP n (nth X k) (nth X (k + 1)) = some i → r = .returned (.bool true) ∧ ∃ H', H'.length = m ∧ SL B w0 w' (PL Bx G m cp H' (pullX X k i))) := by
 unfold PL at hS
 have hHX : H.length = X.length := by omega
 have hrl : ∀ r ∈ X, r.length = n := fun r hr => (hv r hr).2
 obtain ⟨a1, c1, eH1, hR1⟩ := fx_row hS hHX hrl (k := k) (by omega)
 obtain ⟨a2, c2, eH2, hR2⟩ := fx_row hS hHX hrl (k := k + 1) (by omega)
 have v1 := vs_nth (n := n) (X := X) hv (k := k) (by omega)
 have v2 := vs_nth (n := n) (X := X) hv (k := k + 1) (by omega)
 obtain ⟨p1, hp1⟩ : ∃ p, p = nth X k := ⟨_, rfl⟩
 obtain ⟨p2, hp2⟩ : ∃ p, p = nth X (k + 1) := ⟨_, rfl⟩
 have HPX : Hid (∀ i, pullX X k i = (X.set k (bkP p1 i)).set (k + 1) (swpL p2 i)) := hid fun i => by rw [hp1, hp2]; rfl
 rw [← hp1] at hR1 v1 ⊢
 rw [← hp2] at hR2 v2 ⊢
 have qb := (hS.blk 0 rfl).1
 have hRo := hS.rd 1 rfl
 obtain ⟨K1, hK1⟩ : ∃ K : Int, K = ((k + 1 : Nat) : Int) := ⟨_, rfl⟩
 have hw1 : IntKind.i64.wrap ((k : Int) + 1) = K1 := by rw [hK1]; exact IntWalk.i64_in _ (by omega)
 have hK0 : 0 ≤ K1 := by omega
 have hKm : K1 < (m : Int) := by omega
 have hKH : K1 < (H.length : Int) := by omega
 have hkH : (k : Int) < (H.length : Int) := by omega
 have hkm : (k : Int) < (m : Int) := by omega
 have HE1 := hid eH1; have HE2 : Hid (atD ((none, 0, 0) : SlH) H K1 = (a2, n, c2)) := hid (by rw [hK1]; exact eH2)
 have HHL := hid hH; have HK1 := hid hK1; have HHX := hid hHX
 have HCA : Hid (H[k]?.map cSl = some (cSl (a1, n, c1))) := hid (get_mapS (by omega) eH1)
 have HCB : Hid (H[k + 1]?.map cSl = some (cSl (a2, n, c2))) := hid (get_mapS (by omega) eH2)
 have HXK : Hid (k + 1 < X.length) := hid (by omega)
 have HFO : Hid (∀ w', Below w.heap.size w w' → Calls Tryz.prog 137 #[.slice a1 n c1, .slice a2 n c2] w' fun r w'' => r = .returned (folV n p1 p2) ∧ Below w'.heap.size w' w'') := hid fun w' hb => follows_any a1 a2 c1 c2 n p1 p2 w' (hR1.below hb) (hR2.below hb) v1 v2 hn1 hn
 cases hf : folP n p1 p2 with
 | none =>
  have eV : folV n p1 p2 = .tuple #[.int .i64 0, .bool false] := by unfold folV; rw [hf]; rfl
  rw [eV] at HFO
  clear hf eV hp1 hp2 hv v1 v2 eH1 eH2 hHX hrl hR1 hR2 hK1 hH hX
  go_enter Tryz.func169, Tryz.ntmps169
  go_wp2_with fail
  refine wp_region_q kR kR ?_
  repeat (first | ((with_reducible refine wpB_load F_smps wU wU (by assumption) wU ?_); (try simp only [Act.put, pA, pB, pC])) | (((with_reducible refine wpB_idx2 ((none, 0, 0) : SlH) E_smps F_smp cSl1 wU (HHL.out) wU (hRo) oD oD (fun _ => wU) (fun _ => ?_)); (try simp only [Act.put, pA, pB, pC]); (try simp only [cInt])); first | rw [HE1.out] | rw [HE2.out]) | ((refine wpB_call (.tuple #[.int .i64 0, .bool false]) wU (fun w' => ?_) (fun w' hw' => HFO.out w' hw') ?_); (focus (go_simp; done)); (try simp only [Act.put, pA, pB, pC])) |  ((with_reducible refine wpB_load (by first | exact F_int | fail) wU wU (by assumption) wU ?_); (try simp only [Act.put, pA, pB, pC])) | ((with_reducible refine wpB_loadS (n := 2) (us := #[_, _]) (by fail) kR wU wU (by assumption) wU wU ?_); (try simp only [Act.put, pA, pB, pC])) | ((with_reducible refine wpB_loadS (n := 4) (us := #[_, _, _, _]) (by fail) kR wU wU (by assumption) wU wU ?_); (try simp only [Act.put, pA, pB, pC])) | ((refine wpQ_oneG ?_ wU (fun w' => ?_) ?_); rotate_left; (go_simp; rfl); (try simp only [Act.put, pA, pB, pC])))
  refine wpQuiet_nil ?_
  intro w1 hb1
  go_wp2_with fail
  go_ret
  exact ⟨fun _ => ⟨rfl, hS.mono hb1⟩, fun i h => by cases h⟩
 | some i =>
  have eV : folV n p1 p2 = .tuple #[.int .i64 i, .bool true] := by unfold folV; rw [hf]; rfl
  rw [eV] at HFO
  obtain ⟨hi1, hi2, hi3⟩ := fol_some hf
  have hi : i + 1 < n := by omega
  have CBK := fun (a : Option Addr) (c : Nat) w h => backed_any a c p1 i w h v1.1 (by rw [v1.2]; exact hi) (by rw [v1.2]; exact hn)
  have CFR := fun (a : Option Addr) (c : Nat) w h => fronted_any a c p2 i w h (by rw [v2.2]; exact hi) (by rw [v2.2]; exact hn)
  rw [v1.2] at CBK
  rw [v2.2] at CFR
  have hbl : (bkP p1 i).length = n := (v1.bk hi).2
  have hsl : (swpL p2 i).length = n := (v2.fr hi).2
  have HBK := hid CBK; have HFR := hid CFR; have HBL := hid hbl; have HSL := hid hsl
  clear hf eV hp1 hp2 hv v1 v2 eH1 eH2 hHX hrl hK1 hH hX CBK CFR hbl hsl hi1 hi2 hi3 hi
  go_enter Tryz.func169, Tryz.ntmps169
  go_wp2_with fail
  refine wp_region_q kR kR ?_
  repeat (first | ((with_reducible refine wpB_load F_smps wU wU (by assumption) wU ?_); (try simp only [Act.put, pA, pB, pC])) | (((with_reducible refine wpB_idx2 ((none, 0, 0) : SlH) E_smps F_smp cSl1 wU (HHL.out) wU (hRo) oD oD (fun _ => wU) (fun _ => ?_)); (try simp only [Act.put, pA, pB, pC]); (try simp only [cInt])); first | rw [HE1.out] | rw [HE2.out]) | ((refine wpB_call (.tuple #[.int .i64 i, .bool true]) wU (fun w' => ?_) (fun w' hw' => HFO.out w' hw') ?_); (focus (go_simp; done)); (try simp only [Act.put, pA, pB, pC])) |  ((with_reducible refine wpB_load (by first | exact F_int | fail) wU wU (by assumption) wU ?_); (try simp only [Act.put, pA, pB, pC])) | ((with_reducible refine wpB_loadS (n := 2) (us := #[_, _]) (by fail) kR wU wU (by assumption) wU wU ?_); (try simp only [Act.put, pA, pB, pC])) | ((with_reducible refine wpB_loadS (n := 4) (us := #[_, _, _, _]) (by fail) kR wU wU (by assumption) wU wU ?_); (try simp only [Act.put, pA, pB, pC])) | ((refine wpQ_oneG ?_ wU (fun w' => ?_) ?_); rotate_left; (go_simp; rfl); (try simp only [Act.put, pA, pB, pC])))
  refine wpQuiet_nil ?_
  intro w1 hb1
  have hS1 := hS.mono hb1
  replace hR1 := hR1.below hb1
  replace hR2 := hR2.below hb1
  have q1 := (hS1.blk 0 rfl).1
  clear hS qb hRo HFO
  go_wp2_with fail
  have kc : ∀ V : World, (Below B w0 V ∧ V.heap[Bx]? = some (.cells #[.slice (some ⟨G, 0, none⟩) m cp] 158)) → V.cell? ⟨Bx, 0, none⟩ = some (.slice (some ⟨G, 0, none⟩) m cp) := fun V h => by simp [World.cell?, h.2]
  refine wp_regionK (C := (fun V => Below B w0 V ∧ V.heap[Bx]? = some (.cells #[.slice (some ⟨G, 0, none⟩) m cp] 158))) [0, 1, 2, 3, 4, 5, 6, 7, 9, 11, 12, 13, 14, 16] [_, _, _, _, _, _, _, _, _, _, _, _, _, _] 8 (by simp only [List.map_cons, List.map_nil, List.getElem?_toArray]; rfl) rfl kR kR kR (⟨hS1.b.drew, q1⟩) ?_
  refine ⟨_, yieldsK_cellC F_smps (fun V h => kc V h) wU wU, ?_⟩
  go_frame
  refine ⟨.int .i64 (k : Int), yieldsK_val wU (fun w' => by first | (go_simp; done) | (go_simp; rfl)), ?_⟩
  go_frame
  refine ⟨_, yieldsK_cellC F_smps (fun V h => kc V h) wU wU, ?_⟩
  go_frame
  refine ⟨.int .i64 (k : Int), yieldsK_val wU (fun w' => by first | (go_simp; done) | (go_simp; rfl)), ?_⟩
  go_frame
  refine ⟨.int .i64 K1, yieldsK_val wU (fun w' => by first | (go_simp; done) | (go_simp; rfl)), ?_⟩
  go_frame
  refine ⟨_, yieldsK_cellC F_smps (fun V h => kc V h) wU wU, ?_⟩
  go_frame
  refine ⟨.int .i64 (k : Int), yieldsK_val wU (fun w' => by first | (go_simp; done) | (go_simp; rfl)), ?_⟩
  go_frame
  refine ⟨.pointer (some ⟨G, k, none⟩), yieldsK_val wU (fun w' => by first | (go_simp; done) | (go_simp; rfl)), ?_⟩
  go_frame
  refine ⟨.int .i64 (i : Int), yieldsK_val wU (fun w' => by first | (go_simp; done) | (go_simp; rfl)), ?_⟩
  go_frame
  refine ⟨_, yieldsK_cellC F_smps (fun V h => kc V h) wU wU, ?_⟩
  go_frame
  refine ⟨.int .i64 (k : Int), yieldsK_val wU (fun w' => by first | (go_simp; done) | (go_simp; rfl)), ?_⟩
  go_frame
  refine ⟨.int .i64 K1, yieldsK_val wU (fun w' => by first | (go_simp; done) | (go_simp; rfl)), ?_⟩
  go_frame
  refine ⟨.pointer (some ⟨G, K1.toNat, none⟩), yieldsK_val wU (fun w' => by first | (go_simp; done) | (go_simp; rfl)), ?_⟩
  go_frame
  refine ⟨.int .i64 (i : Int), yieldsK_val wU (fun w' => by first | (go_simp; done) | (go_simp; rfl)), ?_⟩
  go_frame
  unfold wpPureK
  have hVd : ({ w1 with drawn := w1.drawn + 1 } : World) = w1.drew := rfl
  rw [hVd]
  clear hVd
  obtain ⟨W, hW⟩ : ∃ W, W = w1.drew := ⟨_, rfl⟩
  have hSW : SL B w0 W ([pBlk Bx (.cells #[.slice (some ⟨G, 0, none⟩) m cp] 158), pOwn cSl 1 115 (.slice (some ⟨G, 0, none⟩) m cp) H] ++ (mxQ H X).map inP) := by rw [hW]; exact hS1.drew
  have hR1W : Ints W a1 c1 p1 := by rw [hW]; exact hR1.below (Below.refl _ _).drew
  have hR2W : Ints W a2 c2 p2 := by rw [hW]; exact hR2.below (Below.refl _ _).drew
  rw [← hW]
  clear hW hS1 hR1 hR2 q1 kc
  obtain ⟨g0, eg0, -, cA, -, -⟩ := hSW.setOwn cSl1 1 rfl (k : Int) (by omega) hkH (none, 0, 0)
  cases eg0
  obtain ⟨g0, eg0, -, cB, -, -⟩ := hSW.setOwn cSl1 1 rfl K1 hK0 hKH (none, 0, 0)
  cases eg0
  rw [show ((k : Int)).toNat = k by omega, HCA.out] at cA
  have eK : K1.toNat = k + 1 := by have := HK1.out; omega
  rw [eK, HCB.out] at cB
  rw [eK]
  clear eK
  simp only [cSl] at cA cB
  refine wpAnyC_on [8, 15] kR (by simp) ?_
  simp only [List.forall_mem_cons, List.not_mem_nil, false_implies, implies_true, and_true]
  refine ⟨?_, ?_⟩
  ·as_aux_lemma =>
   refine wpOp_value (v := .slice a1 n c1) (w' := W) (by rw [List.getElem?_toArray]; rfl) wU (by first | (go_simp; done) | (go_simp; rfl) | (simp [execOp, Act.eval, Result.andThen]; done)) ?_
   refine ⟨⟨hSW.b, (hSW.blk 0 rfl).1⟩, ?_⟩
   go_frame
   refine wpAnyC_on [10, 15] kR (by simp) ?_
   simp only [List.forall_mem_cons, List.not_mem_nil, false_implies, implies_true, and_true]
   refine ⟨?_, ?_⟩
   ·as_aux_lemma =>
    refine wpOp_call (f := 132) (args := #[.slice a1 n c1, .int .i64 (i : Int)]) (by rw [List.getElem?_toArray]; rfl) wU (by first | (go_simp; done) | (simp [execOp, Act.eval, Result.andThen]; done) | (simp [execOp, Act.eval, Result.andThen]; rfl)) ?_
    refine (HBK.out a1 c1 _ hR1W).mono ?_
    rintro e V1 ⟨v1, rfl, ho1, hb1⟩
    obtain ⟨x1, y1, rfl, hr1, _, _⟩ := ho1.reps
    rw [HBL.out]
    have hS2 := hSW.call (SL.ofOwn ho1 hb1)
    simp only [List.cons_append, List.nil_append] at hS2
    rw [HBL.out] at hS2
    have hR2V := hR2W.below hb1
    have cBV : V1.cell? ⟨G, k + 1, none⟩ = some (.slice a2 n c2) := (hb1.cell (p := ⟨G, k + 1, none⟩) (World.block_lt_of_cell? _ _ cB)).trans cB
    refine ⟨_, rfl, ⟨hS2.b, (hS2.blk 1 rfl).1⟩, ?_⟩
    go_frame
    refine wpAnyC_on [15] kR (by simp) ?_
    simp only [List.forall_mem_cons, List.not_mem_nil, false_implies, implies_true, and_true]
    refine wpOp_value (v := .slice a2 n c2) (w' := V1) (by rw [List.getElem?_toArray]; rfl) wU (by first | (go_simp; done) | (go_simp; rfl) | (simp [execOp, Act.eval, Result.andThen]; done)) ?_
    refine ⟨⟨hS2.b, (hS2.blk 1 rfl).1⟩, ?_⟩
    go_frame
    refine wpAnyC_on [17] kR (by simp) ?_
    simp only [List.forall_mem_cons, List.not_mem_nil, false_implies, implies_true, and_true]
    refine wpOp_call (f := 129) (args := #[.slice a2 n c2, .int .i64 (i : Int)]) (by rw [List.getElem?_toArray]; rfl) wU (by first | (go_simp; done) | (simp [execOp, Act.eval, Result.andThen]; done) | (simp [execOp, Act.eval, Result.andThen]; rfl)) ?_
    refine (HFR.out a2 c2 _ hR2V).mono ?_
    rintro e V2 ⟨v2, rfl, ho2, hb2⟩
    obtain ⟨x2, y2, rfl, hr2, _, _⟩ := ho2.reps
    rw [HSL.out]
    have hS3 := hS2.call (SL.ofOwn ho2 hb2)
    simp only [List.cons_append, List.nil_append] at hS3
    rw [HSL.out] at hS3
    refine ⟨_, rfl, ⟨hS3.b, (hS3.blk 2 rfl).1⟩, ?_⟩
    go_frame
    obtain ⟨g1, eg1, -, hcP, hfP, hS4⟩ := hS3.setOwn cSl1 3 rfl (k : Int) (by omega) hkH ((x1, n, y1) : SlH)
    cases eg1
    obtain ⟨g2, eg2, -, hcQ, hfQ, hS5⟩ := hS4.setOwn cSl1 3 rfl K1 hK0 (by rw [List.length_set]; exact hKH) ((x2, n, y2) : SlH)
    cases eg2
    have eK : K1.toNat = k + 1 := by have := HK1.out; omega
    rw [show ((k : Int)).toNat = k by omega] at hcP hfP hS4 hcQ hfQ hS5
    rw [eK] at hcQ hfQ hS5
    have hcP2 : V2.cell? ⟨G, k, none⟩ = some (cSl (a1, n, c1)) := by rw [hcP]; exact HCA.out
    have hcQ2 : (V2.setCell ⟨G, k, none⟩ (cSl ((x1, n, y1) : SlH))).cell? ⟨G, k + 1, none⟩ = some (cSl (a2, n, c2)) := by rw [hcQ, List.getElem?_set_ne (by omega)]; exact HCB.out
    refine wpAnyC_on [18] kR (by simp) ?_
    simp only [List.forall_mem_cons, List.not_mem_nil, false_implies, implies_true, and_true]
    refine wpOp_value (v := .pointer (some ⟨G, k, none⟩)) (w' := V2) (by rw [List.getElem?_toArray]; rfl) wU (by first | (go_simp; done) | (go_simp; rfl) | (simp [execOp, Act.eval, Result.andThen]; done)) ?_
    refine ⟨⟨hS3.b, (hS3.blk 2 rfl).1⟩, ?_⟩
    go_frame
    refine wpAnyC_on [19] kR (by simp) ?_
    simp only [List.forall_mem_cons, List.not_mem_nil, false_implies, implies_true, and_true]
    refine wpOp_of_list (by rw [List.getElem?_toArray]; rfl) ?_
    refine wpList_stoAt (sto_smp ((x1, n, y1) : SlH) _ _) wU wU hcP2 hfP ?_
    refine ⟨⟨hS4.b, (hS4.blk 2 rfl).1⟩, ?_⟩
    go_frame
    refine wpAnyC_on [20] kR (by simp) ?_
    simp only [List.forall_mem_cons, List.not_mem_nil, false_implies, implies_true, and_true]
    refine wpOp_value (v := .pointer (some ⟨G, k + 1, none⟩)) (w' := (V2.setCell ⟨G, k, none⟩ (cSl ((x1, n, y1) : SlH)))) (by rw [List.getElem?_toArray]; rfl) wU (by first | (go_simp; done) | (go_simp; rfl) | (simp [execOp, Act.eval, Result.andThen]; done)) ?_
    refine ⟨⟨hS4.b, (hS4.blk 2 rfl).1⟩, ?_⟩
    go_frame
    refine wpAnyC_on [21] kR (by simp) ?_
    simp only [List.forall_mem_cons, List.not_mem_nil, false_implies, implies_true, and_true]
    refine wpOp_of_list (by rw [List.getElem?_toArray]; rfl) ?_
    refine wpList_stoAt (sto_smp ((x2, n, y2) : SlH) _ _) wU wU hcQ2 hfQ ?_
    refine ⟨⟨hS5.b, (hS5.blk 2 rfl).1⟩, ?_⟩
    go_frame
    refine wpAnyC_rest [] [] rfl rfl kR kR kR ⟨hS5.b, (hS5.blk 2 rfl).1⟩ ?_
    unfold wpPure
    refine of_wpList_nil (P := Tryz.prog) (ops := #[]) ?_
    have hfin := pull_pieces (x1 := ((x1, n, y1) : SlH)) (x2 := ((x2, n, y2) : SlH)) HHX.out HXK.out hS5
    rw [← HPX.out i] at hfin
    clear hS5 hS4 hS3 hcP hfP hcQ hfQ hcP2 hcQ2
    generalize ((V2.setCell ⟨G, k, none⟩ (cSl ((x1, n, y1) : SlH))).setCell ⟨G, k + 1, none⟩ (cSl ((x2, n, y2) : SlH))) = w9 at *
    go_wp2_with fail
    go_ret
    refine ⟨fun h => (by cases h), fun j h => ?_⟩
    cases h
    exact ⟨rfl, _, by rw [List.length_set, List.length_set]; exact HHL.out, hfin⟩
   ·as_aux_lemma =>
    refine wpOp_value (v := .slice a2 n c2) (w' := W) (by rw [List.getElem?_toArray]; rfl) wU (by first | (go_simp; done) | (go_simp; rfl) | (simp [execOp, Act.eval, Result.andThen]; done)) ?_
    refine ⟨⟨hSW.b, (hSW.blk 0 rfl).1⟩, ?_⟩
    go_frame
    refine wpAnyC_on [10] kR (by simp) ?_
    simp only [List.forall_mem_cons, List.not_mem_nil, false_implies, implies_true, and_true]
    refine wpOp_call (f := 132) (args := #[.slice a1 n c1, .int .i64 (i : Int)]) (by rw [List.getElem?_toArray]; rfl) wU (by first | (go_simp; done) | (simp [execOp, Act.eval, Result.andThen]; done) | (simp [execOp, Act.eval, Result.andThen]; rfl)) ?_
    refine (HBK.out a1 c1 _ hR1W).mono ?_
    rintro e V1 ⟨v1, rfl, ho1, hb1⟩
    obtain ⟨x1, y1, rfl, hr1, _, _⟩ := ho1.reps
    rw [HBL.out]
    have hS2 := hSW.call (SL.ofOwn ho1 hb1)
    simp only [List.cons_append, List.nil_append] at hS2
    rw [HBL.out] at hS2
    have hR2V := hR2W.below hb1
    have cBV : V1.cell? ⟨G, k + 1, none⟩ = some (.slice a2 n c2) := (hb1.cell (p := ⟨G, k + 1, none⟩) (World.block_lt_of_cell? _ _ cB)).trans cB
    refine ⟨_, rfl, ⟨hS2.b, (hS2.blk 1 rfl).1⟩, ?_⟩
    go_frame
    refine wpAnyC_on [17] kR (by simp) ?_
    simp only [List.forall_mem_cons, List.not_mem_nil, false_implies, implies_true, and_true]
    refine wpOp_call (f := 129) (args := #[.slice a2 n c2, .int .i64 (i : Int)]) (by rw [List.getElem?_toArray]; rfl) wU (by first | (go_simp; done) | (simp [execOp, Act.eval, Result.andThen]; done) | (simp [execOp, Act.eval, Result.andThen]; rfl)) ?_
    refine (HFR.out a2 c2 _ hR2V).mono ?_
    rintro e V2 ⟨v2, rfl, ho2, hb2⟩
    obtain ⟨x2, y2, rfl, hr2, _, _⟩ := ho2.reps
    rw [HSL.out]
    have hS3 := hS2.call (SL.ofOwn ho2 hb2)
    simp only [List.cons_append, List.nil_append] at hS3
    rw [HSL.out] at hS3
    refine ⟨_, rfl, ⟨hS3.b, (hS3.blk 2 rfl).1⟩, ?_⟩
    go_frame
    obtain ⟨g1, eg1, -, hcP, hfP, hS4⟩ := hS3.setOwn cSl1 3 rfl (k : Int) (by omega) hkH ((x1, n, y1) : SlH)
    cases eg1
    obtain ⟨g2, eg2, -, hcQ, hfQ, hS5⟩ := hS4.setOwn cSl1 3 rfl K1 hK0 (by rw [List.length_set]; exact hKH) ((x2, n, y2) : SlH)
    cases eg2
    have eK : K1.toNat = k + 1 := by have := HK1.out; omega
    rw [show ((k : Int)).toNat = k by omega] at hcP hfP hS4 hcQ hfQ hS5
    rw [eK] at hcQ hfQ hS5
    have hcP2 : V2.cell? ⟨G, k, none⟩ = some (cSl (a1, n, c1)) := by rw [hcP]; exact HCA.out
    have hcQ2 : (V2.setCell ⟨G, k, none⟩ (cSl ((x1, n, y1) : SlH))).cell? ⟨G, k + 1, none⟩ = some (cSl (a2, n, c2)) := by rw [hcQ, List.getElem?_set_ne (by omega)]; exact HCB.out
    refine wpAnyC_on [18] kR (by simp) ?_
    simp only [List.forall_mem_cons, List.not_mem_nil, false_implies, implies_true, and_true]
    refine wpOp_value (v := .pointer (some ⟨G, k, none⟩)) (w' := V2) (by rw [List.getElem?_toArray]; rfl) wU (by first | (go_simp; done) | (go_simp; rfl) | (simp [execOp, Act.eval, Result.andThen]; done)) ?_
    refine ⟨⟨hS3.b, (hS3.blk 2 rfl).1⟩, ?_⟩
    go_frame
    refine wpAnyC_on [19] kR (by simp) ?_
    simp only [List.forall_mem_cons, List.not_mem_nil, false_implies, implies_true, and_true]
    refine wpOp_of_list (by rw [List.getElem?_toArray]; rfl) ?_
    refine wpList_stoAt (sto_smp ((x1, n, y1) : SlH) _ _) wU wU hcP2 hfP ?_
    refine ⟨⟨hS4.b, (hS4.blk 2 rfl).1⟩, ?_⟩
    go_frame
    refine wpAnyC_on [20] kR (by simp) ?_
    simp only [List.forall_mem_cons, List.not_mem_nil, false_implies, implies_true, and_true]
    refine wpOp_value (v := .pointer (some ⟨G, k + 1, none⟩)) (w' := (V2.setCell ⟨G, k, none⟩ (cSl ((x1, n, y1) : SlH)))) (by rw [List.getElem?_toArray]; rfl) wU (by first | (go_simp; done) | (go_simp; rfl) | (simp [execOp, Act.eval, Result.andThen]; done)) ?_
    refine ⟨⟨hS4.b, (hS4.blk 2 rfl).1⟩, ?_⟩
    go_frame
    refine wpAnyC_on [21] kR (by simp) ?_
    simp only [List.forall_mem_cons, List.not_mem_nil, false_implies, implies_true, and_true]
    refine wpOp_of_list (by rw [List.getElem?_toArray]; rfl) ?_
    refine wpList_stoAt (sto_smp ((x2, n, y2) : SlH) _ _) wU wU hcQ2 hfQ ?_
    refine ⟨⟨hS5.b, (hS5.blk 2 rfl).1⟩, ?_⟩
    go_frame
    refine wpAnyC_rest [] [] rfl rfl kR kR kR ⟨hS5.b, (hS5.blk 2 rfl).1⟩ ?_
    unfold wpPure
    refine of_wpList_nil (P := Tryz.prog) (ops := #[]) ?_
    have hfin := pull_pieces (x1 := ((x1, n, y1) : SlH)) (x2 := ((x2, n, y2) : SlH)) HHX.out HXK.out hS5
    rw [← HPX.out i] at hfin
    clear hS5 hS4 hS3 hcP hfP hcQ hfQ hcP2 hcQ2
    generalize ((V2.setCell ⟨G, k, none⟩ (cSl ((x1, n, y1) : SlH))).setCell ⟨G, k + 1, none⟩ (cSl ((x2, n, y2) : SlH))) = w9 at *
    go_wp2_with fail
    go_ret
    refine ⟨fun h => (by cases h), fun j h => ?_⟩
    cases h
    exact ⟨rfl, _, by rw [List.length_set, List.length_set]; exact HHL.out, hfin⟩
  ·as_aux_lemma =>
   refine wpOp_value (v := .slice a2 n c2) (w' := W) (by rw [List.getElem?_toArray]; rfl) wU (by first | (go_simp; done) | (go_simp; rfl) | (simp [execOp, Act.eval, Result.andThen]; done)) ?_
   refine ⟨⟨hSW.b, (hSW.blk 0 rfl).1⟩, ?_⟩
   go_frame
   refine wpAnyC_on [8] kR (by simp) ?_
   simp only [List.forall_mem_cons, List.not_mem_nil, false_implies, implies_true, and_true]
   refine wpOp_value (v := .slice a1 n c1) (w' := W) (by rw [List.getElem?_toArray]; rfl) wU (by first | (go_simp; done) | (go_simp; rfl) | (simp [execOp, Act.eval, Result.andThen]; done)) ?_
   refine ⟨⟨hSW.b, (hSW.blk 0 rfl).1⟩, ?_⟩
   go_frame
   refine wpAnyC_on [10] kR (by simp) ?_
   simp only [List.forall_mem_cons, List.not_mem_nil, false_implies, implies_true, and_true]
   refine wpOp_call (f := 132) (args := #[.slice a1 n c1, .int .i64 (i : Int)]) (by rw [List.getElem?_toArray]; rfl) wU (by first | (go_simp; done) | (simp [execOp, Act.eval, Result.andThen]; done) | (simp [execOp, Act.eval, Result.andThen]; rfl)) ?_
   refine (HBK.out a1 c1 _ hR1W).mono ?_
   rintro e V1 ⟨v1, rfl, ho1, hb1⟩
   obtain ⟨x1, y1, rfl, hr1, _, _⟩ := ho1.reps
   rw [HBL.out]
   have hS2 := hSW.call (SL.ofOwn ho1 hb1)
   simp only [List.cons_append, List.nil_append] at hS2
   rw [HBL.out] at hS2
   have hR2V := hR2W.below hb1
   have cBV : V1.cell? ⟨G, k + 1, none⟩ = some (.slice a2 n c2) := (hb1.cell (p := ⟨G, k + 1, none⟩) (World.block_lt_of_cell? _ _ cB)).trans cB
   refine ⟨_, rfl, ⟨hS2.b, (hS2.blk 1 rfl).1⟩, ?_⟩
   go_frame
   refine wpAnyC_on [17] kR (by simp) ?_
   simp only [List.forall_mem_cons, List.not_mem_nil, false_implies, implies_true, and_true]
   refine wpOp_call (f := 129) (args := #[.slice a2 n c2, .int .i64 (i : Int)]) (by rw [List.getElem?_toArray]; rfl) wU (by first | (go_simp; done) | (simp [execOp, Act.eval, Result.andThen]; done) | (simp [execOp, Act.eval, Result.andThen]; rfl)) ?_
   refine (HFR.out a2 c2 _ hR2V).mono ?_
   rintro e V2 ⟨v2, rfl, ho2, hb2⟩
   obtain ⟨x2, y2, rfl, hr2, _, _⟩ := ho2.reps
   rw [HSL.out]
   have hS3 := hS2.call (SL.ofOwn ho2 hb2)
   simp only [List.cons_append, List.nil_append] at hS3
   rw [HSL.out] at hS3
   refine ⟨_, rfl, ⟨hS3.b, (hS3.blk 2 rfl).1⟩, ?_⟩
   go_frame
   obtain ⟨g1, eg1, -, hcP, hfP, hS4⟩ := hS3.setOwn cSl1 3 rfl (k : Int) (by omega) hkH ((x1, n, y1) : SlH)
   cases eg1
   obtain ⟨g2, eg2, -, hcQ, hfQ, hS5⟩ := hS4.setOwn cSl1 3 rfl K1 hK0 (by rw [List.length_set]; exact hKH) ((x2, n, y2) : SlH)
   cases eg2
   have eK : K1.toNat = k + 1 := by have := HK1.out; omega
   rw [show ((k : Int)).toNat = k by omega] at hcP hfP hS4 hcQ hfQ hS5
   rw [eK] at hcQ hfQ hS5
   have hcP2 : V2.cell? ⟨G, k, none⟩ = some (cSl (a1, n, c1)) := by rw [hcP]; exact HCA.out
   have hcQ2 : (V2.setCell ⟨G, k, none⟩ (cSl ((x1, n, y1) : SlH))).cell? ⟨G, k + 1, none⟩ = some (cSl (a2, n, c2)) := by rw [hcQ, List.getElem?_set_ne (by omega)]; exact HCB.out
   refine wpAnyC_on [18] kR (by simp) ?_
   simp only [List.forall_mem_cons, List.not_mem_nil, false_implies, implies_true, and_true]
   refine wpOp_value (v := .pointer (some ⟨G, k, none⟩)) (w' := V2) (by rw [List.getElem?_toArray]; rfl) wU (by first | (go_simp; done) | (go_simp; rfl) | (simp [execOp, Act.eval, Result.andThen]; done)) ?_
   refine ⟨⟨hS3.b, (hS3.blk 2 rfl).1⟩, ?_⟩
   go_frame
   refine wpAnyC_on [19] kR (by simp) ?_
   simp only [List.forall_mem_cons, List.not_mem_nil, false_implies, implies_true, and_true]
   refine wpOp_of_list (by rw [List.getElem?_toArray]; rfl) ?_
   refine wpList_stoAt (sto_smp ((x1, n, y1) : SlH) _ _) wU wU hcP2 hfP ?_
   refine ⟨⟨hS4.b, (hS4.blk 2 rfl).1⟩, ?_⟩
   go_frame
   refine wpAnyC_on [20] kR (by simp) ?_
   simp only [List.forall_mem_cons, List.not_mem_nil, false_implies, implies_true, and_true]
   refine wpOp_value (v := .pointer (some ⟨G, k + 1, none⟩)) (w' := (V2.setCell ⟨G, k, none⟩ (cSl ((x1, n, y1) : SlH)))) (by rw [List.getElem?_toArray]; rfl) wU (by first | (go_simp; done) | (go_simp; rfl) | (simp [execOp, Act.eval, Result.andThen]; done)) ?_
   refine ⟨⟨hS4.b, (hS4.blk 2 rfl).1⟩, ?_⟩
   go_frame
   refine wpAnyC_on [21] kR (by simp) ?_
   simp only [List.forall_mem_cons, List.not_mem_nil, false_implies, implies_true, and_true]
   refine wpOp_of_list (by rw [List.getElem?_toArray]; rfl) ?_
   refine wpList_stoAt (sto_smp ((x2, n, y2) : SlH) _ _) wU wU hcQ2 hfQ ?_
   refine ⟨⟨hS5.b, (hS5.blk 2 rfl).1⟩, ?_⟩
   go_frame
   refine wpAnyC_rest [] [] rfl rfl kR kR kR ⟨hS5.b, (hS5.blk 2 rfl).1⟩ ?_
   unfold wpPure
   refine of_wpList_nil (P := Tryz.prog) (ops := #[]) ?_
   have hfin := pull_pieces (x1 := ((x1, n, y1) : SlH)) (x2 := ((x2, n, y2) : SlH)) HHX.out HXK.out hS5
   rw [← HPX.out i] at hfin
   clear hS5 hS4 hS3 hcP hfP hcQ hfQ hcP2 hcQ2
   generalize ((V2.setCell ⟨G, k, none⟩ (cSl ((x1, n, y1) : SlH))).setCell ⟨G, k + 1, none⟩ (cSl ((x2, n, y2) : SlH))) = w9 at *
   go_wp2_with fail
   go_ret
   refine ⟨fun h => (by cases h), fun j h => ?_⟩
   cases h
   exact ⟨rfl, _, by rw [List.length_set, List.length_set]; exact HHL.out, hfin⟩
end Go.Proofs.YtglpfpdomnllkaaGreat

namespace Go.Proofs.YtglpfpdomnllkaaGreat
open Go.RowKit
set_option maxHeartbeats 8000000
set_option maxRecDepth 100000
/-- the pieces without the box. -/
def PR (G m cp : Nat) (H : List SlH) (X : List (List Int)) : List Pc := [pOwn cSl 1 115 (.slice (some ⟨G, 0, none⟩) m cp) H] ++ (mxQ H X).map inP
theorem mu_up {a b m k : Nat} (h : a ≤ b) (hk : k ≤ m) : a * (m + 2) + (m + 1 - (k + 1)) < b * (m + 2) + (m + 1 - k) := by
 have := Nat.mul_le_mul_right (m + 2) h
 omega
theorem mu_down {a b m k : Nat} (h : a + 1 ≤ b) (hk : k ≤ m) : a * (m + 2) + (m + 1 - (k - 1)) < b * (m + 2) + (m + 1 - k) := by
 have := Nat.mul_le_mul_right (m + 2) h
 rw [Nat.add_mul] at this
 omega
theorem push_any {B : Nat} {w0 w : World} {G m cp n : Nat} {H0 : List SlH} {X0 : List (List Int)} (hS : SL B w0 w (PR G m cp H0 X0)) (hH : H0.length = m) (hX : X0.length = m) (hv : Vs (garN n).toGar X0) (hn1 : 1 ≤ n) (hn : n ≤ 1000) (hm : m ≤ 1000) :
  Calls Tryz.prog 133 #[.slice (some ⟨G, 0, none⟩) m cp] w fun r w' => (∃ v, r = .returned v) ∧ ∃ H X, H.length = m ∧ PushS n X0 X 0 ∧ NoPull (garN n).toGar X ∧ SL B w0 w' (PR G m cp H X) := by
 have hP0 : PushS n X0 X0 0 := ⟨.refl _, hv, rfl, fun j hj => by omega⟩
 have hS1 : SL B w0 (w.alloc (.cells #[.slice (some ⟨G, 0, none⟩) m cp] 158)) (PL w.heap.size G m cp H0 X0) := SL.box hS _
 obtain ⟨Bx, hBx⟩ : ∃ b, b = w.heap.size := ⟨_, rfl⟩
 rw [← hBx] at hS1
 obtain ⟨wb, hwb⟩ : ∃ wb, wb = w.alloc (.cells #[.slice (some ⟨G, 0, none⟩) m cp] 158) := ⟨_, rfl⟩
 obtain ⟨mu, hmu⟩ : ∃ mu : List (List Int) → Nat, ∀ X, mu X = muG (garN n).toGar X := ⟨_, fun _ => rfl⟩
 have HX := hid hX; have HMU := hid hmu
 clear hmu hX hv
 go_enter Tryz.func133, Tryz.ntmps133
 go_wp2_with fail
 simp only [← hBx, ← hwb]
 rw [← hwb] at hS1
 clear hwb hBx hS
 go_step3
 go_wp2
 go_step3
 go_wp2
 go_loopg [3, 4] (mu X0 * (m + 2) + (m + 1 - 0)) (fun g kv _ wr => ∃ (k : Nat) (H : List SlH) (X : List (List Int)), kv = .int .i64 k ∧ k ≤ m ∧ H.length = m ∧ Aside (PushS n X0 X k) ∧ Aside (g = mu X * (m + 2) + (m + 1 - k)) ∧ SL B w0 wr (PL Bx G m cp H X))
 case atStart => exact ⟨0, H0, X0, rfl, by omega, hH, hP0, rfl, hS1⟩
 case round =>
  clear hS1 hP0 hH
  obtain ⟨k, H, X, rfl, hk, hH, HP, HG, hSr⟩ := hrel
  have cb := hSr.cell 0 rfl 0 rfl
  have hXl : X.length = m := by rw [HP.out.len]; exact HX.out
  have hw1 : IntKind.i64.wrap ((k : Int) + 1) = (k : Int) + 1 := IntWalk.i64_in _ (by omega)
  by_cases hlt : k + 1 < m
  ·have dlt : decide ((k : Int) + 1 < (m : Int)) = true := decide_eq_true (by omega)
   obtain ⟨Xk, hXk⟩ : ∃ Y, Y = X := ⟨_, rfl⟩
   have HGK : Hid (gk = mu Xk * (m + 2) + (m + 1 - k)) := hid (by rw [hXk]; exact HG.out)
   have hP1 : PushS n X0 X (k - 1) := ⟨HP.out.star, HP.out.vs, HP.out.len, HP.out.set.le (by omega)⟩
   have HXL := hid hXl
   clear HG hXl
   go_wp2_with fail
   clear cb dlt
   go_loopg [4] (mu X) (fun g mv wy => ∃ (H : List SlH) (X : List (List Int)) (mo : Bool), mv = .bool mo ∧ H.length = m ∧ Aside (PushS n X0 X (if mo then k - 1 else k)) ∧ Aside (g = mu X ∧ mu X + (if mo then 1 else 0) ≤ mu Xk) ∧ SL B w0 wy (PL Bx G m cp H X))
   case atStart => exact ⟨H, X, false, rfl, hH, HP, ⟨rfl, by rw [hXk]; exact Nat.le_refl _⟩, hSr⟩
   case round =>
    clear hSr hP1 HP hXk HXL hH H X
    obtain ⟨H, X, mo, rfl, hH, HP, HG, hSr⟩ := hrel
    have hXl : X.length = m := by rw [HP.out.len]; exact HX.out
    have HV := hid HP.out.vs
    have hkX : k + 1 < X.length := by omega
    have hP1 : PushS n X0 X (k - 1) := by
     refine ⟨HP.out.star, HP.out.vs, HP.out.len, HP.out.set.le ?_⟩
     cases mo <;> simp
    have HP1 := hid hP1
    have HXL := hid hXl
    have HC := hid (push1_any hSr hH hXl HP.out.vs hn1 hn hm k hlt)
    clear hXl hP1
    go_wp2_with fail
    refine HC.out.mono ?_
    rintro e wy ⟨hN, hM⟩
    clear HC hSr
    cases hf : folP n (nth X k) (nth X (k + 1)) with
    | some i =>
     obtain ⟨rfl, H', hH', hS'⟩ := hM i hf
     have HP2 := hid (HP1.out.pull (k := k) (i := i) (by omega) hkX hf)
     have HMI : Hid (mu (pullX X k i) < mu X) := hid (by rw [HMU.out, HMU.out]; exact pullX_mu HV.out hkX hf)
     have HML : Hid (mu (pullX X k i) + 1 ≤ mu Xk) := hid (by have h1 := HG.out.2; have h2 := HMI.out; omega)
     clear hN hM hf
     go_wp2_with fail
     go_roundg (mu (pullX X k i))
     case measure => have h1 := HG.out.1; have h2 := HMI.out; omega
     case rel => exact ⟨H', pullX X k i, true, rfl, hH', HP2.out, ⟨rfl, HML.out⟩, hS'⟩
    | none =>
     obtain ⟨rfl, hS'⟩ := hN hf
     have HST : Hid (PushS n X0 X k → PushS n X0 X (k + 1)) := hid fun h => ⟨h.star, h.vs, h.len, h.set.next hf⟩
     have HST1 : Hid (k = 0 → PushS n X0 X (k + 1)) := hid fun h => ⟨HP1.out.star, HP1.out.vs, HP1.out.len, Settled.next (k := k) (fun j hj => by omega) hf⟩
     clear hN hM hf
     cases mo with
     | false =>
      go_wp2_with fail
      go_roundg (mu X * (m + 2) + (m + 1 - (k + 1)))
      case measure => rw [HGK.out]; exact mu_up (by have := HG.out.2; simpa using this) (by omega)
      case rel => exact ⟨k + 1, H, X, by go_num, by omega, hH, HST.out HP.out, rfl, hS'⟩
     | true =>
      by_cases hk0 : 0 < k
      ·obtain ⟨K0, hK0⟩ : ∃ K : Int, K = (k : Int) - 1 := ⟨_, rfl⟩
       have hw0 : IntKind.i64.wrap ((k : Int) - 1) = K0 := by rw [hK0]; exact IntWalk.i64_in _ (by omega)
       have HK0 : Hid (K0 = ((k - 1 : Nat) : Int)) := hid (by omega)
       have dk : decide (0 < (k : Int)) = true := decide_eq_true (by omega)
       clear hK0
       go_wp2_with fail
       go_roundg (mu X * (m + 2) + (m + 1 - (k - 1)))
       case measure => rw [HGK.out]; exact mu_down (by have := HG.out.2; simpa using this) (by omega)
       case rel => exact ⟨k - 1, H, X, by rw [HK0.out], by omega, hH, HP1.out, rfl, hS'⟩
      ·have dk : decide (0 < (k : Int)) = false := decide_eq_false (by omega)
       go_wp2_with fail
       go_roundg (mu X * (m + 2) + (m + 1 - (k + 1)))
       case measure => rw [HGK.out]; exact mu_up (by have := HG.out.2; simp at this; omega) (by omega)
       case rel => exact ⟨k + 1, H, X, by go_num, by omega, hH, HST1.out (by omega), rfl, hS'⟩
  ·have dlt : decide ((k : Int) + 1 < (m : Int)) = false := decide_eq_false (by omega)
   have HNP := hid (HP.out.set.all (by omega))
   clear HG hXl hlt
   go_wp2_with fail
   rw [Exit.noGoto_normal]
   go_end0
   exact ⟨⟨_, rfl⟩, H, X, hH, ⟨HP.out.star, HP.out.vs, HP.out.len, fun j hj => by omega⟩, HNP.out, SL.tail hSr⟩
end Go.Proofs.YtglpfpdomnllkaaGreat

namespace Go.Proofs.YtglpfpdomnllkaaGreat
open Go.RowKit
set_option maxHeartbeats 8000000
set_option maxRecDepth 100000
/-- the handles lead to rows of n places. -/
def RowsR (w : World) (n : Nat) (H : List SlH) (X : List (List Int)) : Prop := H.length = X.length ∧ ∀ k : Nat, k < X.length → ∃ a c, atD ((none, 0, 0) : SlH) H (k : Int) = (a, n, c) ∧ Ints w a c (nth X k)
theorem RowsR.below {w w' : World} {n : Nat} {H : List SlH} {X : List (List Int)} (h : RowsR w n H X) (hb : Below w.heap.size w w') : RowsR w' n H X := ⟨h.1, fun k hk => by obtain ⟨a, c, e, r⟩ := h.2 k hk; exact ⟨a, c, e, r.below hb⟩⟩
theorem SL.rowsR {B : Nat} {w0 w : World} {pre : List Pc} {H : List SlH} {X : List (List Int)} {n : Nat} (h : SL B w0 w (pre ++ (mxQ H X).map inP)) (hH : H.length = X.length) (hX : ∀ r ∈ X, r.length = n) : RowsR w n H X := ⟨hH, fun k hk => fx_row h hH hX hk⟩
theorem mxQ_snoc {H : List SlH} {X : List (List Int)} (h : H.length = X.length) (x : SlH) (r : List Int) : mxQ (H ++ [x]) (X ++ [r]) = mxQ H X ++ [(x, r)] := by
 unfold mxQ
 rw [List.zip_append h]
 rfl
theorem nth_take {X : List (List Int)} {k : Nat} (h : k < X.length) : X.take (k + 1) = X.take k ++ [nth X k] := by
 rw [List.take_succ_eq_append_getElem h]; simp [nth, atD, h]
theorem mappedF_any (aa : Option Addr) (ca n m : Nat) (H : List SlH) (X : List (List Int)) (w : World) (hR : Reps cSl 1 w aa ca H) (hrows : RowsR w n H X) (hX : X.length = m) (hv : ∀ x ∈ X, VP n x) (hn : n ≤ 1000) (hm : m ≤ 1000) :
  Calls Tryz.prog 130 #[.slice aa m ca, .func (.func 131) #[] #[]] w fun r w' => ∃ v Ho, r = .returned v ∧ Ho.length = m ∧ SL w.heap.size w w' ([pOwn cSl 1 115 v Ho] ++ (mxQ Ho (X.map flP)).map inP) := by
 have hcap := hR.le
 have hmx := hR.max
 have hHl : H.length = m := by rw [hrows.1, hX]
 rw [hHl] at hcap
 have HC := hid (fun (k : Nat) (hk : k < m) (a : Option Addr) (c : Nat) w (h : Ints w a c (nth X k)) => (show Calls Tryz.prog 131 #[.slice a n c] w fun r w' => ∃ v, r = .returned v ∧ OwnI w.heap.size w' v (flP (nth X k)) ∧ Below w.heap.size w w' from by
  have v := vs_nth (n := n) (X := X) hv (k := k) (by omega)
  have := flipped_any a c (nth X k) w h v.1 (by rw [v.2]; exact hn)
  rw [v.2] at this
  exact this))
 have HFL := hid (fun (k : Nat) (hk : k < m) => (show (flP (nth X k)).length = n from (VP.fl (vs_nth (n := n) (X := X) hv (k := k) (by omega))).2))
 have HTK : Hid (∀ k, k < m → (X.take (k + 1)).map flP = (X.take k).map flP ++ [flP (nth X k)]) := hid fun k hk => by rw [nth_take (by omega), List.map_append]; rfl
 have HLN : Hid (∀ k, k ≤ m → ((X.take k).map flP).length = k) := hid fun k hk => by rw [List.length_map, List.length_take]; omega
 have HRW := hid hrows; have HHL := hid hHl; have HXL := hid hX
 have hS0 : SL w.heap.size w w ([pOwn cSl 1 115 (.slice none 0 0) ([] : List SlH)] ++ (mxQ [] ((X.take 0).map flP)).map inP) := (SL.nil w).nilS (α := SlH) (e := 115) cSlS
 clear hrows hHl hX hv
 go_enter Tryz.func130, Tryz.ntmps130
 go_wp2_with fail
 go_loopw [10, 5, 7] (fun iv ov _ wr => ∃ (k : Nat) (Ho : List SlH), k ≤ m ∧ iv = .int .i64 k ∧ Ho.length = k ∧ SL w.heap.size w wr ([pOwn cSl 1 115 ov Ho] ++ (mxQ Ho ((X.take k).map flP)).map inP)) (fun iv _ _ _ => m - (intOf iv).toNat)
 case atStart => exact ⟨0, [], by omega, rfl, rfl, hS0⟩
 case round =>
  clear hS0
  obtain ⟨k, Ho, hk, rfl, hHo, hSr⟩ := hrel
  by_cases hlt : k < m
  ·obtain ⟨a1, c1, e1, h1⟩ := HRW.out.2 k (by rw [HXL.out]; exact hlt)
   have hRr := hR.below hSr.b
   have HE1 := hid e1
   have HCK := hid (HC.out k hlt a1 c1)
   have hfl := HFL.out k hlt
   have htk := HTK.out k hlt
   have hln := HLN.out k hk
   have hHo20 : Ho.length ≤ 1000 := by omega
   obtain ⟨F, hF⟩ : ∃ F, F = flP (nth X k) := ⟨_, rfl⟩
   rw [← hF] at HCK hfl htk
   obtain ⟨T, hT⟩ : ∃ T, T = (X.take k).map flP := ⟨_, rfl⟩
   rw [← hT] at hSr htk hln
   have HTK2 := hid htk; have HHT : Hid (Ho.length = T.length) := hid (by rw [hln]; exact hHo)
   have HHO := hid hHo; have HFN := hid hfl
   have h1r := h1.below hSr.b
   have hkH : (k : Int) < (H.length : Int) := by rw [HHL.out]; omega
   clear e1 htk hln hHo hfl hF hT h1
   go_wp2_with ((with_reducible refine wpList_idxN _ ((none, 0, 0) : SlH) E_smps F_smp cSl1 wU wU (hRr) (HHL.out) oD oD (fun _ => wU) (fun _ => ?_)); rw [HE1.out])
   refine (HCK.out _ h1r).mono ?_
   rintro e w2 ⟨v2, rfl, ho, b2⟩
   have hS2 := hSr.call (SL.ofOwn ho b2)
   obtain ⟨a2, c2, hv2, -⟩ := hS2.slice (c := cInt) 0 rfl
   rw [HFN.out] at hv2
   subst hv2
   simp only [List.cons_append, List.nil_append] at hS2
   clear ho b2 hSr hRr h1r
   go_wp2_with ((with_reducible refine wpList_pushL (y := ((a2, n, c2) : SlH)) 1 E_smps wU wU (hS2) wU cSlO ⟨rfl, rfl⟩ (by first | with_unfolding_all rfl | simp) wU (by first | omega | (simp; omega)) (by first | omega | (simp; omega)) ?_); intro v3 w3 hS3)
   have hS4 := hS3.comm (K := [pOwn cInt 1 3 (.slice a2 n c2) F])
   exact ⟨⟨k + 1, Ho ++ [(a2, n, c2)], by omega, by go_num, by rw [List.length_append, HHO.out]; rfl, by
    rw [HTK2.out, mxQ_snoc HHT.out, List.map_append]
    exact hS4⟩, by simp [intOf]; omega⟩
  ·have hkk : k = m := by omega
   have hfull : X.take k = X := by rw [hkk, ← HXL.out, List.take_length]
   rw [hfull] at hSr
   have HHO : Hid (Ho.length = m) := hid (by omega)
   have hkn : ¬ ((k : Int) < (m : Int)) := by omega
   clear hkk hfull hlt hk hHo
   go_wp2_with fail
   go_ret
   exact ⟨_, rfl, Ho, HHO.out, hSr⟩
theorem push_nil (w : World) : Calls Tryz.prog 133 #[.slice none 0 0] w fun r w' => (∃ v, r = .returned v) ∧ Below w.heap.size w w' := by
 have hS := (SL.nil w).box (.cells #[.slice none 0 0] 158)
 have cb := hS.cell 0 rfl 0 rfl
 have hb := bal (Below.refl w.heap.size w) (.cells #[.slice none 0 0] 158)
 obtain ⟨wb, hwb⟩ : ∃ wb, wb = w.alloc (.cells #[.slice none 0 0] 158) := ⟨_, rfl⟩
 rw [← hwb] at cb hb
 clear hS
 go_enter Tryz.func133, Tryz.ntmps133
 go_wp2_with fail
 simp only [← hwb]
 clear hwb
 go_step3
 go_wp2
 go_step3
 go_wp2
 go_loopg [3, 4] 0 (fun g kv _ wr => kv = .int .i64 0 ∧ wr = wb)
 case atStart => exact ⟨rfl, rfl⟩
 case round =>
  obtain ⟨rfl, rfl⟩ := hrel
  go_wp2_with fail
  rw [Exit.noGoto_normal]
  go_end0
  exact ⟨⟨_, rfl⟩, hb⟩
end Go.Proofs.YtglpfpdomnllkaaGreat

namespace Go.Proofs.YtglpfpdomnllkaaGreat
open Go.RowKit
set_option maxHeartbeats 2000000
set_option maxRecDepth 100000

def cB (b : UInt8) : Value := .int .u8 b.toNat
attribute [go_sem] cB
section
variable {P : Program} {ops : Array Oper} {rest : List Oper} {a : Act} {Q : Exit → Act → World → Prop} {d : Option Tmp} {src dst e ty : TypeId} {p : String} {x : Operand} {af : Array Edge} {w : World}
end
end Go.Proofs.YtglpfpdomnllkaaGreat

namespace Go.Proofs.YtglpfpdomnllkaaGreat
open Go.RowKit
set_option maxHeartbeats 2000000
set_option maxRecDepth 100000

end Go.Proofs.YtglpfpdomnllkaaGreat

namespace Go.Proofs.YtglpfpdomnllkaaGreat
open Go.RowKit
set_option maxHeartbeats 2000000
set_option maxRecDepth 100000

end Go.Proofs.YtglpfpdomnllkaaGreat

namespace Go.Proofs.YtglpfpdomnllkaaGreat
open Go.RowKit
set_option maxHeartbeats 2000000
set_option maxRecDepth 100000

section
variable {P : Program} {t e : TypeId} {w : World} {v : Value} {l : List Int} {y : Int}
end
/-- what an append leaves of the shorter slice. -/
def Sib (v : Value) (l : List Int) (v' : Value) (T M : List Pc) : Prop :=
 (T = M ∧ ∃ g c, v = .slice (some ⟨g, 0, none⟩) l.length c ∧ v' = .slice (some ⟨g, 0, none⟩) (l.length + 1) c) ∨ T = pOwn cInt 1 3 v l :: M
theorem own_shorter {e : TypeId} {w : World} {g c : Nat} {l : List Int} {y : Int} {B : Nat} (h : Own cInt 1 B e w (.slice (some ⟨g, 0, none⟩) (l.length + 1) c) (l ++ [y])) : Own cInt 1 B e w (.slice (some ⟨g, 0, none⟩) l.length c) l := by
 obtain ⟨h1, h2, h3⟩ := h
 have hfl : ∀ L : List Int, (L.flatMap fun x => (cInt x).cells.toList).length = L.length * 1 := fun L => flat_len _ 1 (fun x => by simpa using cIntS x) L
 refine ⟨h1, hfl l, ?_⟩
 rcases h3 with ⟨h3, _⟩ | ⟨g', c', cur, hv, hB, hg, hnc, hcm, hcs, htk⟩
 ·cases h3
 ·simp only [Value.slice.injEq, Option.some.injEq, Addr.mk.injEq, and_true] at hv
  obtain ⟨rfl, _, rfl⟩ := hv
  refine .inr ⟨g, c, cur, rfl, hB, hg, ?_, hcm, hcs, ?_⟩
  ·simp at hnc; omega
  ·rw [List.flatMap_append] at htk
   have h4 := congrArg (List.take (l.length * 1)) htk
   rw [List.take_take, List.length_append, List.length_cons, List.length_nil] at h4
   rw [show min (l.length * 1) ((l.length + (0 + 1)) * 1) = l.length * 1 by omega] at h4
   rw [h4, ← hfl l, List.take_left]
theorem Sib.back {B : Nat} {w0 w : World} {v v' : Value} {l : List Int} {y : Int} {T M : List Pc} {p q : Pc} (h : Sib v l v' T M) (hS : SL B w0 w (p :: q :: pOwn cInt 1 3 v' (l ++ [y]) :: T)) : SL B w0 w (p :: q :: pOwn cInt 1 3 v l :: M) := by
 rcases h with ⟨rfl, g, c, rfl, rfl⟩ | rfl
 ·exact hS.weaken 2 rfl (pOwn cInt 1 3 (.slice (some ⟨g, 0, none⟩) l.length c) l) (fun b hb => ⟨own_shorter hb.1, hb.2⟩)
 ·exact SL.pickA (K := [p, q, pOwn cInt 1 3 v' (l ++ [y]), pOwn cInt 1 3 v l]) (M := M) hS [0, 1, 3] (by decide) (by simp) [p, q, pOwn cInt 1 3 v l] rfl
section
variable {ops : Array Oper} {rest : List Oper} {a : Act} {Q : Exit → Act → World → Prop} {w0 w : World} {M : List Pc} {B : Nat} {v : Value} {l : List Int}
end

end Go.Proofs.YtglpfpdomnllkaaGreat

namespace Go.Proofs.YtglpfpdomnllkaaGreat
set_option maxRecDepth 100000
/-- the other slot of a shared place, or -1. -/
def otherM (m : MacV) (s : Int) : Int := if (decide (0 ≤ placeM m s) && sharedM m (placeM m s)) = true then 4 * befM m (placeM m s) + 2 + 4 * placeM m s - s else -1
theorem other_over (m : MacV) (s : Int) : overM m s = if (decide (0 ≤ otherM m s) && !m.sw.contains (placeM m s)) = true then otherM m s else s := by
 unfold overM otherM goesM
 by_cases h : (decide (0 ≤ placeM m s) && sharedM m (placeM m s)) = true
 ·rw [if_pos h]
  have h0 : 0 ≤ 4 * befM m (placeM m s) + 2 + 4 * placeM m s - s ∨ ¬ 0 ≤ 4 * befM m (placeM m s) + 2 + 4 * placeM m s - s := by omega
  rw [h, Bool.true_and]
  rcases h0 with h0 | h0
  ·rw [decide_eq_true h0, Bool.true_and]
  ·exfalso
   simp only [Bool.and_eq_true, decide_eq_true_eq] at h
   obtain ⟨hp, hs⟩ := h
   obtain ⟨_, h1, _⟩ := shared_iff.1 hs
   apply h0
   unfold befM
   unfold placeM at hp h1 ⊢
   split at hp <;> rename_i c
   ·rw [if_pos c] at h1 ⊢; split <;> omega
   ·rw [if_neg c] at h1 ⊢
    split at hp <;> rename_i c2
    ·rw [if_pos c2] at h1 ⊢
     split at hp <;> rename_i c3
     ·rw [if_pos c3] at h1 ⊢; rw [if_pos rfl]; omega
     ·rw [if_neg c3] at h1 ⊢; split <;> omega
    ·omega
 ·rw [if_neg h]
  have : (decide (0 ≤ placeM m s) && sharedM m (placeM m s)) = false := by simpa using h
  rw [this, Bool.false_and]
  simp
/-- in a shared place there are two slots. -/
theorem other_only {m : MacV} {s i : Int} (h0 : 0 ≤ s) (h1 : s < 4 * m.gears) (i0 : 0 ≤ i) (i1 : i < 4 * m.gears) (hp : 0 ≤ placeM m s) (hs : sharedM m (placeM m s) = true) (hne : i ≠ s) (e : placeM m i = placeM m s) : i = otherM m s := by
 unfold otherM
 rw [hs, decide_eq_true hp, if_pos (by rfl)]
 obtain ⟨_, hlt, hr⟩ := shared_iff.1 hs
 obtain ⟨p, hpp⟩ : ∃ p, p = placeM m s := ⟨_, rfl⟩
 rw [← hpp] at e hp hlt hr ⊢
 unfold placeM at hpp e
 unfold befM
 cases hrg : m.ring
 ·simp only [hrg, Bool.false_eq_true, false_and, if_false, false_or] at hpp e hr
  rw [if_neg (by omega)]
  split at hpp <;> split at e <;> first | omega | (split at hpp <;> first | omega | (split at e <;> omega)) | (split at e <;> omega)
 ·simp only [hrg, true_and] at hpp e
  split at hpp <;> split at e <;> split <;> first | omega | (split at hpp <;> first | omega | (split at hpp <;> first | omega | (split at e <;> first | omega | (split at e <;> omega)))) | (split at e <;> first | omega | (split at e <;> omega))
theorem other_is {m : MacV} {s : Int} (h0 : 0 ≤ s) (h1 : s < 4 * m.gears) (hp : 0 ≤ placeM m s) (hs : sharedM m (placeM m s) = true) : 0 ≤ otherM m s ∧ otherM m s < 4 * m.gears ∧ otherM m s ≠ s ∧ placeM m (otherM m s) = placeM m s := by
 have hm : MacV := ⟨m.ring, m.gears, m.turn, []⟩
 have := over_cases (m := ⟨m.ring, m.gears, m.turn, []⟩) h0 h1
 have e1 : ∀ x, placeM ⟨m.ring, m.gears, m.turn, []⟩ x = placeM m x := fun x => rfl
 have e2 : ∀ x, sharedM ⟨m.ring, m.gears, m.turn, []⟩ x = sharedM m x := fun x => rfl
 have e3 : ∀ x, befM ⟨m.ring, m.gears, m.turn, []⟩ x = befM m x := fun x => rfl
 have hg : goesM ⟨m.ring, m.gears, m.turn, []⟩ s = true := by
  unfold goesM
  rw [e1, e2, hs, decide_eq_true hp]
  rfl
 have eo : overM ⟨m.ring, m.gears, m.turn, []⟩ s = otherM m s := by
  unfold overM otherM
  rw [hg, if_pos rfl, e1, e3, hs, decide_eq_true hp]
  rfl
 rcases this with ⟨h, _⟩ | ⟨_, a, b, c, d, _⟩
 ·rw [hg] at h; cases h
 ·rw [eo] at a b c d
  rw [e1, e1] at c
  exact ⟨a, b, d, c⟩
/-- the switch before. -/
def prevO (l : List Int) : Nat → Option Int
 | 0 => none
 | k + 1 => some (atD 0 l k)
theorem swGo_prev (m : MacV) (k : Nat) (h : k < m.sw.length) : swGo m (prevO m.sw k) (m.sw.drop k) = if sharedM m (atD 0 m.sw k) = false then 10 else if 0 < k ∧ atD 0 m.sw k ≤ atD 0 m.sw ((k : Int) - 1) then 11 else swGo m (prevO m.sw (k + 1)) (m.sw.drop (k + 1)) := by
 rw [swGo_step m k h]
 cases k with
 | zero => simp [prevO]
 | succ j =>
  have : ((j + 1 : Nat) : Int) - 1 = j := by omega
  rw [this]
  simp only [prevO, Nat.zero_lt_succ, true_and]
end Go.Proofs.YtglpfpdomnllkaaGreat

namespace Go.Proofs.YtglpfpdomnllkaaGreat
set_option maxRecDepth 100000

abbrev catO (l : List (Option Int)) : List Int := l.filterMap id
def opG (m : MacV) (l : List Int) (g : Int) (i : Nat) : Option Int := idxO l (slotG m g i)
theorem orderG_eq (m : MacV) (l : List Int) (g : Int) : orderG m l g = catO [opG m l g 0, opG m l g 1, opG m l g 2, opG m l g 3] := by
 unfold orderG catO opG
 rw [slotsG_eq]
 simp [List.filterMap_cons]
def afterG (m : MacV) (l : List Int) (g : Int) : List Int := catO [opG m l g 2, opG m l g 0, opG m l g 3, opG m l g 1]
theorem crossG_eq (m : MacV) (l : List Int) (g : Int) : crossG m l g = (crossA m l g 1 2).toList ++ ((crossA m l g 0 2).toList ++ (crossA m l g 1 3).toList) := by
 unfold crossG pairsX
 simp only [List.filterMap_cons, List.filterMap_nil]
 generalize crossA m l g 1 2 = a
 generalize crossA m l g 0 2 = b
 generalize crossA m l g 1 3 = c
 cases a <;> cases b <;> cases c <;> rfl
def mkX (m : MacV) (g : Int) (a b : Int) : CrM := if fwdM m g then ⟨g, b, a, a⟩ else ⟨g, a, b, a⟩
theorem mkX_going (m : MacV) (g a b : Int) : (mkX m g a b).going = a := by unfold mkX; split <;> rfl
theorem crossA_eq (m : MacV) (l : List Int) (g : Int) (x y : Nat) : crossA m l g x y = bothX (mkX m g) (opG m l g x) (opG m l g y) := rfl
theorem catO_app (x y : List (Option Int)) : catO (x ++ y) = catO x ++ catO y := by simp [catO]
theorem crossG_row (m : MacV) (l : List Int) (g : Int) {A C : List Int} (hn : (A ++ orderG m l g ++ C).Nodup) (out : List Int) :
  ∃ out', (crossG m l g).foldl weaveC (A ++ orderG m l g ++ C, out) = (A ++ afterG m l g ++ C, out') ∧ (A ++ afterG m l g ++ C).Nodup := by
 rw [crossG_eq, orderG_eq] at *
 unfold afterG
 rw [crossA_eq, crossA_eq, crossA_eq]
 generalize opG m l g 0 = o0 at *
 generalize opG m l g 1 = o1 at *
 generalize opG m l g 2 = o2 at *
 generalize opG m l g 3 = o3 at *
 have e1 : A ++ catO [o0, o1, o2, o3] ++ C = (A ++ catO [o0]) ++ [o1, o2].filterMap id ++ (catO [o3] ++ C) := by
  rw [show [o0, o1, o2, o3] = [o0] ++ ([o1, o2] ++ [o3]) from rfl, catO_app, catO_app]; simp only [catO, List.append_assoc]
 have e2 : (A ++ catO [o0]) ++ [o2, o1].filterMap id ++ (catO [o3] ++ C) = A ++ [o0, o2].filterMap id ++ (catO [o1, o3] ++ C) := by
  rw [show [o0, o2] = [o0] ++ [o2] from rfl, show [o2, o1] = [o2] ++ [o1] from rfl, show [o1, o3] = [o1] ++ [o3] from rfl, catO_app, ]
  simp only [catO, List.filterMap_append, List.append_assoc]
 have e3 : A ++ [o2, o0].filterMap id ++ (catO [o1, o3] ++ C) = (A ++ catO [o2, o0]) ++ [o1, o3].filterMap id ++ C := by
  simp only [catO, List.append_assoc]
 have e4 : (A ++ catO [o2, o0]) ++ [o3, o1].filterMap id ++ C = A ++ catO [o2, o0, o3, o1] ++ C := by
  rw [show [o2, o0, o3, o1] = [o2, o0] ++ [o3, o1] from rfl, catO_app]; simp only [catO, List.append_assoc]
 rw [e1] at hn ⊢
 rw [List.foldl_append, List.foldl_append]
 obtain ⟨u1, h1, n1⟩ := cross_swap hn (mkX_going m g) out
 rw [h1]
 rw [e2] at n1 ⊢
 obtain ⟨u2, h2, n2⟩ := cross_swap n1 (mkX_going m g) u1
 rw [h2]
 rw [e3] at n2 ⊢
 obtain ⟨u3, h3, n3⟩ := cross_swap n2 (mkX_going m g) u2
 rw [h3]
 rw [e4] at n3 ⊢
 exact ⟨u3, rfl, n3⟩
theorem crossL_row (m : MacV) (l : List Int) : ∀ (gs : List Int) (A out : List Int), (A ++ gs.flatMap (orderG m l)).Nodup →
  ∃ out', (gs.flatMap (crossG m l)).foldl weaveC (A ++ gs.flatMap (orderG m l), out) = (A ++ gs.flatMap (afterG m l), out') ∧ (A ++ gs.flatMap (afterG m l)).Nodup
 | [], A, out, hn => ⟨out, rfl, hn⟩
 | g :: gs, A, out, hn => by
   simp only [List.flatMap_cons] at hn ⊢
   rw [← List.append_assoc] at hn ⊢
   obtain ⟨u1, h1, n1⟩ := crossG_row m l g hn out
   rw [List.foldl_append, h1]
   obtain ⟨u2, h2, n2⟩ := crossL_row m l gs (A ++ afterG m l g) u1 n1
   rw [h2]
   rw [← List.append_assoc]
   exact ⟨u2, rfl, n2⟩

theorem gearsL_mem {m : MacV} {g : Int} : g ∈ gearsL m ↔ 0 ≤ g ∧ g < m.gears := by
 unfold gearsL
 simp only [List.mem_map, List.mem_range]
 constructor
 ·rintro ⟨k, hk, rfl⟩; omega
 ·intro h; exact ⟨g.toNat, by omega, by omega⟩
theorem gearsL_nodup (m : MacV) : (gearsL m).Nodup := by
 unfold gearsL List.Nodup
 rw [List.pairwise_map]
 have := List.nodup_range (n := m.gears.toNat)
 exact this.imp (fun h e => h (by omega))
theorem slotsG_nodup (m : MacV) (g : Int) : (slotsG m g).Nodup := by
 unfold slotsG
 split <;> simp <;> omega
theorem slotsG_mem {m : MacV} {g s : Int} : s ∈ slotsG m g ↔ s / 4 = g := by
 unfold slotsG
 split <;> simp <;> omega
theorem seqM_nodup (m : MacV) : ((gearsL m).flatMap (slotsG m)).Nodup := by
 unfold List.Nodup
 rw [List.pairwise_flatMap]
 refine ⟨fun g _ => slotsG_nodup m g, (gearsL_nodup m).imp ?_⟩
 intro a b hab x hx y hy e
 rw [slotsG_mem] at hx hy
 exact hab (by rw [← hx, ← hy, e])
theorem idxO_inj {l : List Int} {x y i : Int} (h : idxO l x = some i) (k : idxO l y = some i) : x = y := by
 have a := (idxO_some h).2.2
 have b := (idxO_some k).2.2
 rw [a] at b
 exact Option.some.inj b
theorem orderM_seq (m : MacV) (l : List Int) : orderM m l = ((gearsL m).flatMap (slotsG m)).filterMap (idxO l) := by
 unfold orderM orderG
 rw [List.filterMap_flatMap]
theorem orderM_nodup (m : MacV) (l : List Int) : (orderM m l).Nodup := by
 rw [orderM_seq]
 unfold List.Nodup
 rw [List.pairwise_filterMap]
 refine (seqM_nodup m).imp ?_
 intro a b hab x hx y hy e
 subst e
 exact hab (idxO_inj hx hy)
def afterM (m : MacV) (l : List Int) : List Int := (gearsL m).flatMap (afterG m l)
theorem weaveS_row (m : MacV) (l out : List Int) : ∃ out', weaveS m (orderM m l, out) l = (afterM m l, out') ∧ (afterM m l).Nodup := by
 have := crossL_row m l (gearsL m) [] out (by simpa [orderM] using orderM_nodup m l)
 simpa [weaveS, crossM, orderM, afterM] using this

theorem idxO_map {l : List Int} {f : Int → Int} {s t : Int} (h : ∀ x ∈ l, f x = s ↔ x = t) : idxO (l.map f) s = idxO l t := by
 have e : (l.map f).findIdx (· == s) = l.findIdx (· == t) := by
  rw [List.findIdx_map]
  induction l with
  | nil => rfl
  | cons x r ih =>
   rw [List.findIdx_cons, List.findIdx_cons, ih (fun y hy => h y (List.mem_cons_of_mem _ hy))]
   have := h x List.mem_cons_self
   have e2 : ((fun x => x == s) ∘ f) x = (x == t) := by
    simp only [Function.comp]
    rw [Bool.eq_iff_iff]; simpa using this
   rw [e2]
 unfold idxO
 rw [e, List.length_map]
theorem rot_slot {m : MacV} {g : Int} : rotM m (slotG m g 2) = slotG m g 0 ∧ rotM m (slotG m g 0) = slotG m g 1 ∧ rotM m (slotG m g 3) = slotG m g 2 ∧ rotM m (slotG m g 1) = slotG m g 3 := by
 have hd := fun i => slotG_div m g i
 unfold rotM
 rw [hd, hd, hd, hd]
 cases hf : fwdM m g <;> simp [slotG, hf] <;> omega
theorem slotG_rng {m : MacV} {g : Int} (h0 : 0 ≤ g) (h1 : g < m.gears) (i : Nat) : 0 ≤ slotG m g i ∧ slotG m g i < 4 * m.gears := by
 unfold slotG
 split
 ·omega
 ·split <;> omega
 ·split <;> omega
 ·omega
theorem idxO_rot {m : MacV} {l : List Int} (hl : ∀ x ∈ l, 0 ≤ x ∧ x < 4 * m.gears) {s t : Int} (h0 : 0 ≤ t) (h1 : t < 4 * m.gears) (h : rotM m t = s) : idxO (l.map (rotM m)) s = idxO l t :=
 idxO_map fun x hx => ⟨fun e => rot_inj (hl x hx).1 (hl x hx).2 h0 h1 (e.trans h.symm), fun e => e ▸ h⟩
theorem over_inj {m : MacV} {s t : Int} (h0 : 0 ≤ s) (h1 : s < 4 * m.gears) (k0 : 0 ≤ t) (k1 : t < 4 * m.gears) (e : overM m s = overM m t) : s = t := by
 have := congrArg (overM m) e
 rwa [over_over h0 h1, over_over k0 k1] at this
theorem idxO_over {m : MacV} {l : List Int} (hl : ∀ x ∈ l, 0 ≤ x ∧ x < 4 * m.gears) {s : Int} (h0 : 0 ≤ s) (h1 : s < 4 * m.gears) : idxO (l.map (overM m)) s = idxO l (overM m s) :=
 idxO_map fun x hx => ⟨fun e => by rw [← e, over_over (hl x hx).1 (hl x hx).2], fun e => by rw [e, over_over h0 h1]⟩
theorem after_rot {m : MacV} {l : List Int} (hl : ∀ x ∈ l, 0 ≤ x ∧ x < 4 * m.gears) : afterM m l = orderM m (l.map (rotM m)) := by
 unfold afterM orderM
 have key : ∀ g ∈ gearsL m, afterG m l g = orderG m (l.map (rotM m)) g := by
  intro g hg
  obtain ⟨h0, h1⟩ := gearsL_mem.1 hg
  obtain ⟨r2, r0, r3, r1⟩ := rot_slot (m := m) (g := g)
  have k := fun i => slotG_rng (m := m) h0 h1 i
  rw [orderG_eq]
  unfold afterG opG
  rw [idxO_rot hl (k 2).1 (k 2).2 r2, idxO_rot hl (k 0).1 (k 0).2 r0, idxO_rot hl (k 3).1 (k 3).2 r3, idxO_rot hl (k 1).1 (k 1).2 r1]
 have : ∀ gs : List Int, (∀ g ∈ gs, g ∈ gearsL m) → gs.flatMap (afterG m l) = gs.flatMap (orderG m (l.map (rotM m))) := by
  intro gs
  induction gs with
  | nil => intro _; rfl
  | cons g gs ih => intro h; rw [List.flatMap_cons, List.flatMap_cons, key g (h g List.mem_cons_self), ih (fun x hx => h x (List.mem_cons_of_mem _ hx))]
 exact this _ (fun _ h => h)

/-- the same, taken apart at the shared places. -/
theorem regroup (F : Nat → List Int) (a bc d : Nat → List Int) (hF : ∀ g, F g = a g ++ bc g ++ d g) : ∀ k : Nat, (List.range (k + 1)).flatMap F = a 0 ++ (List.range k).flatMap (fun g => bc g ++ (d g ++ a (g + 1))) ++ (bc k ++ d k)
 | 0 => by simp [List.range_succ, hF]
 | k + 1 => by
   rw [List.range_succ, List.flatMap_append, regroup F a bc d hF k, List.range_succ, List.flatMap_append]
   simp [hF, List.append_assoc]
theorem placeM_slot {m : MacV} (g : Int) : placeM m (slotG m g 0) = g ∧ placeM m (slotG m g 1) = -1 ∧ placeM m (slotG m g 2) = -1 ∧ (m.ring = false → placeM m (slotG m g 3) = g + 1) := by
 cases hf : fwdM m g <;> unfold placeM slotG <;> simp only [hf, if_true, if_false, Bool.false_eq_true] <;> refine ⟨?_, ?_, ?_, fun hr => ?_⟩ <;> (repeat' split) <;> first | omega | simp_all <;> omega
/-- no two of these carriers are in both slots of a shared place. -/
def NoHit (m : MacV) (l : List Int) : Prop := ∀ x ∈ l, ∀ y ∈ l, x ≠ y → hitM m x y = false
theorem order_over {m : MacV} {l : List Int} (hr : m.ring = false) (hl : ∀ x ∈ l, 0 ≤ x ∧ x < 4 * m.gears) (hno : NoHit m l) : orderM m (l.map (overM m)) = orderM m l := by
 by_cases hg : m.gears ≤ 0
 ·have : m.gears.toNat = 0 := by omega
  simp [orderM, gearsL, this]
 obtain ⟨k, hk⟩ : ∃ k : Nat, m.gears.toNat = k + 1 := ⟨m.gears.toNat - 1, by omega⟩
 have hkg : m.gears = (k : Int) + 1 := by omega
 have hu : ∀ L : List Int, orderM m L = (List.range (k + 1)).flatMap (fun g : Nat => orderG m L (g : Int)) := by
  intro L
  unfold orderM gearsL
  rw [hk, List.flatMap_map]
 have hF : ∀ (L : List Int) (g : Nat), orderG m L (g : Int) = catO [opG m L g 0] ++ catO [opG m L g 1, opG m L g 2] ++ catO [opG m L g 3] := by
  intro L g
  rw [orderG_eq, ← catO_app, ← catO_app]
  rfl
 rw [hu, hu, regroup _ _ _ _ (hF (l.map (overM m))) k, regroup _ _ _ _ (hF l) k]
 have stay : ∀ (g i : Nat), (g : Int) < m.gears → goesM m (slotG m g i) = false → opG m (l.map (overM m)) g i = opG m l g i := by
  intro g i hg hno
  obtain ⟨s0, s1⟩ := slotG_rng (m := m) (g := (g : Int)) (by omega) hg i
  unfold opG
  rw [idxO_over hl s0 s1]
  unfold overM
  rw [hno]
  rfl
 have gm1 : ∀ (g : Nat), goesM m (slotG m g 1) = false := fun g => by unfold goesM; rw [(placeM_slot g).2.1]; simp
 have gm2 : ∀ (g : Nat), goesM m (slotG m g 2) = false := fun g => by unfold goesM; rw [(placeM_slot g).2.2.1]; simp
 have gm0 : goesM m (slotG m ((0 : Nat) : Int) 0) = false := by unfold goesM; rw [(placeM_slot _).1]; simp [sharedM, hr]
 have gmk : goesM m (slotG m (k : Int) 3) = false := by
  unfold goesM
  rw [(placeM_slot (m := m) (k : Int)).2.2.2 hr]
  have : sharedM m ((k : Int) + 1) = false := by unfold sharedM; simp [hr, hkg]
  rw [this]; simp
 have z0 : catO [opG m (l.map (overM m)) ((0 : Nat) : Int) 0] = catO [opG m l ((0 : Nat) : Int) 0] := by rw [stay 0 0 (by omega) gm0]
 have zk : catO [opG m (l.map (overM m)) k 1, opG m (l.map (overM m)) k 2] ++ catO [opG m (l.map (overM m)) k 3] = catO [opG m l k 1, opG m l k 2] ++ catO [opG m l k 3] := by
  rw [stay k 1 (by omega) (gm1 k), stay k 2 (by omega) (gm2 k), stay k 3 (by omega) gmk]
 rw [z0, zk]
 congr 2
 have mid : ∀ g : Nat, g < k → (catO [opG m (l.map (overM m)) g 1, opG m (l.map (overM m)) g 2] ++ (catO [opG m (l.map (overM m)) g 3] ++ catO [opG m (l.map (overM m)) ((g + 1 : Nat) : Int) 0])) = (catO [opG m l g 1, opG m l g 2] ++ (catO [opG m l g 3] ++ catO [opG m l ((g + 1 : Nat) : Int) 0])) := by
  intro g hg
  rw [stay g 1 (by omega) (gm1 g), stay g 2 (by omega) (gm2 g)]
  congr 1
  have p3 := (placeM_slot (m := m) (g : Int)).2.2.2 hr
  have p0 := (placeM_slot (m := m) ((g + 1 : Nat) : Int)).1
  have e3 : slotG m (g : Int) 3 = 4 * (g : Int) + 2 := rfl
  have e0 : slotG m ((g + 1 : Nat) : Int) 0 = 4 * ((g + 1 : Nat) : Int) := rfl
  have hsh : sharedM m ((g : Int) + 1) = true := shared_iff.2 ⟨by omega, by omega, .inr (by omega)⟩
  have r3 := slotG_rng (m := m) (g := (g : Int)) (by omega) (by omega) 3
  have r0 := slotG_rng (m := m) (g := ((g + 1 : Nat) : Int)) (by omega) (by omega) 0
  cases hsw : m.sw.contains ((g : Int) + 1)
  ·have hb : befM m ((g : Int) + 1) = g := by unfold befM; rw [if_neg (by omega)]; omega
   have o3 : overM m (slotG m (g : Int) 3) = slotG m ((g + 1 : Nat) : Int) 0 := by
    have hgo : goesM m (slotG m (g : Int) 3) = true := by unfold goesM; rw [p3, hsh, hsw]; simp; omega
    unfold overM
    rw [if_pos hgo, p3, hb, e3, e0]
    omega
   have o0 : overM m (slotG m ((g + 1 : Nat) : Int) 0) = slotG m (g : Int) 3 := by rw [← o3, over_over r3.1 r3.2]
   have a3 : opG m (l.map (overM m)) (g : Int) 3 = opG m l ((g + 1 : Nat) : Int) 0 := by unfold opG; rw [idxO_over hl r3.1 r3.2, o3]
   have a0 : opG m (l.map (overM m)) ((g + 1 : Nat) : Int) 0 = opG m l (g : Int) 3 := by unfold opG; rw [idxO_over hl r0.1 r0.2, o0]
   rw [a3, a0]
   -- at most one of them is there
   match h1 : opG m l (g : Int) 3, h2 : opG m l ((g + 1 : Nat) : Int) 0 with
   | none, none => rfl
   | none, some b => rfl
   | some a, none => rfl
   | some a, some b =>
    exfalso
    have m1 := List.mem_of_getElem? (idxO_some h1).2.2
    have m2 := List.mem_of_getElem? (idxO_some h2).2.2
    have hh := hno _ m1 _ m2 (by rw [e3, e0]; omega)
    unfold hitM at hh
    rw [p3, p0, hsh] at hh
    simp at hh
    omega
  ·have g3 : goesM m (slotG m (g : Int) 3) = false := by unfold goesM; rw [p3, hsw]; simp
   have g0 : goesM m (slotG m ((g + 1 : Nat) : Int) 0) = false := by
    unfold goesM; rw [p0, show ((g + 1 : Nat) : Int) = (g : Int) + 1 by omega, hsw]; simp
   rw [stay g 3 (by omega) g3, stay (g + 1) 0 (by omega) g0]
 have : ∀ j, j ≤ k → (List.range j).flatMap (fun g : Nat => catO [opG m (l.map (overM m)) (g : Int) 1, opG m (l.map (overM m)) (g : Int) 2] ++ (catO [opG m (l.map (overM m)) (g : Int) 3] ++ catO [opG m (l.map (overM m)) ((g + 1 : Nat) : Int) 0])) = (List.range j).flatMap (fun g : Nat => catO [opG m l (g : Int) 1, opG m l (g : Int) 2] ++ (catO [opG m l (g : Int) 3] ++ catO [opG m l ((g + 1 : Nat) : Int) 0])) := by
  intro j
  induction j with
  | zero => intro _; rfl
  | succ j ih => intro h; rw [List.range_succ, List.flatMap_append, List.flatMap_append, ih (by omega)]; simp only [List.flatMap_cons, List.flatMap_nil, List.append_nil]; rw [mid j (by omega)]
 exact this k (Nat.le_refl _)
theorem order_step {m : MacV} {l : List Int} (hr : m.ring = false) (hl : ∀ x ∈ l, 0 ≤ x ∧ x < 4 * m.gears) (hno : NoHit m (stepL m l)) : afterM m l = orderM m (stepL m l) := by
 have hl2 : ∀ x ∈ l.map (rotM m), 0 ≤ x ∧ x < 4 * m.gears := by
  intro x hx
  obtain ⟨y, hy, rfl⟩ := List.mem_map.1 hx
  have := rot_rng (hl y hy).1 (hl y hy).2
  exact ⟨this.1, this.2.1⟩
 have e : stepL m l = (l.map (rotM m)).map (overM m) := by unfold stepL; rw [List.map_map]; rfl
 rw [after_rot hl, e, order_over hr hl2]
 intro x hx y hy hxy
 have hx2 := hl2 x hx
 have hy2 := hl2 y hy
 have h1 := hno (overM m x) (by rw [e]; exact List.mem_map_of_mem hx) (overM m y) (by rw [e]; exact List.mem_map_of_mem hy) (fun e => hxy (over_inj hx2.1 hx2.2 hy2.1 hy2.2 e))
 have pl : ∀ s, 0 ≤ s → s < 4 * m.gears → placeM m (overM m s) = placeM m s := by
  intro s h0 h1
  rcases over_cases h0 h1 with ⟨_, e⟩ | ⟨_, _, _, hp, _⟩
  ·rw [e]
  ·exact hp
 unfold hitM at h1 ⊢
 rw [pl x hx2.1 hx2.2, pl y hy2.1 hy2.2] at h1
 exact h1
end Go.Proofs.YtglpfpdomnllkaaGreat

namespace Go.Proofs.YtglpfpdomnllkaaGreat
set_option maxRecDepth 100000

def rowC (r : List Int) (c : CrM) : List Int := swpL r (idxZ r c.going).toNat
theorem fold_fst : ∀ (cs : List CrM) (r out : List Int), (cs.foldl weaveC (r, out)).1 = cs.foldl rowC r
 | [], r, out => rfl
 | c :: cs, r, out => by rw [List.foldl_cons, List.foldl_cons, weaveC]; exact fold_fst cs _ _
theorem fold_len : ∀ (cs : List CrM) (r out : List Int), (cs.foldl weaveC (r, out)).2.length = out.length + cs.length
 | [], r, out => rfl
 | c :: cs, r, out => by
   rw [List.foldl_cons, weaveC, fold_len cs, List.length_append, List.length_cons, List.length_nil, List.length_cons]; dsimp only; omega
def goodC : List Int → List CrM → Prop
 | _, [] => True
 | r, c :: cs => (∃ i : Nat, idxO r c.going = some (i : Int) ∧ i + 1 < r.length) ∧ goodC (rowC r c) cs
theorem goodC_app : ∀ (xs ys : List CrM) (r : List Int), goodC r (xs ++ ys) ↔ goodC r xs ∧ goodC (xs.foldl rowC r) ys
 | [], ys, r => by simp [goodC]
 | c :: xs, ys, r => by
   rw [List.cons_append, goodC, goodC, List.foldl_cons, goodC_app xs ys (rowC r c), and_assoc]
theorem cross_good {A C : List Int} {x y : Option Int} (hn : (A ++ [x, y].filterMap id ++ C).Nodup) {f : Int → Int → CrM} (hf : ∀ a b, (f a b).going = a) :
  goodC (A ++ [x, y].filterMap id ++ C) (bothX f x y).toList := by
 match x, y with
 | none, none => trivial
 | none, some b => trivial
 | some a, none => trivial
 | some a, some b =>
  have ha : a ∉ A := by
   intro hm
   have h1 := List.nodup_append.1 (List.append_assoc _ _ _ ▸ hn)
   exact h1.2.2 a hm a (by simp) rfl
  have e : (A ++ [some a, some b].filterMap id ++ C) = A ++ a :: b :: C := by simp
  rw [e]
  refine ⟨⟨A.length, ?_, ?_⟩, trivial⟩
  ·rw [hf]; exact idxO_mid ha
  ·simp
theorem crossG_good (m : MacV) (l : List Int) (g : Int) {A C : List Int} (hn : (A ++ orderG m l g ++ C).Nodup) : goodC (A ++ orderG m l g ++ C) (crossG m l g) := by
 rw [crossG_eq, orderG_eq] at *
 rw [crossA_eq, crossA_eq, crossA_eq]
 generalize opG m l g 0 = o0 at *
 generalize opG m l g 1 = o1 at *
 generalize opG m l g 2 = o2 at *
 generalize opG m l g 3 = o3 at *
 have e1 : A ++ catO [o0, o1, o2, o3] ++ C = (A ++ catO [o0]) ++ [o1, o2].filterMap id ++ (catO [o3] ++ C) := by
  rw [show [o0, o1, o2, o3] = [o0] ++ ([o1, o2] ++ [o3]) from rfl, catO_app, catO_app]; simp only [catO, List.append_assoc]
 have e2 : (A ++ catO [o0]) ++ [o2, o1].filterMap id ++ (catO [o3] ++ C) = A ++ [o0, o2].filterMap id ++ (catO [o1, o3] ++ C) := by
  rw [show [o0, o2] = [o0] ++ [o2] from rfl, show [o2, o1] = [o2] ++ [o1] from rfl, show [o1, o3] = [o1] ++ [o3] from rfl, catO_app, ]
  simp only [catO, List.filterMap_append, List.append_assoc]
 have e3 : A ++ [o2, o0].filterMap id ++ (catO [o1, o3] ++ C) = (A ++ catO [o2, o0]) ++ [o1, o3].filterMap id ++ C := by
  simp only [catO, List.append_assoc]
 rw [e1] at hn ⊢
 have g1 := cross_good hn (mkX_going m g)
 obtain ⟨u1, h1, n1⟩ := cross_swap hn (mkX_going m g) []
 have r1 := congrArg Prod.fst h1
 rw [fold_fst] at r1
 simp only [e2] at r1 n1
 have g2 := cross_good n1 (mkX_going m g)
 obtain ⟨u2, h2, n2⟩ := cross_swap n1 (mkX_going m g) []
 have r2 := congrArg Prod.fst h2
 rw [fold_fst] at r2
 simp only [e3] at r2 n2
 have g3 := cross_good n2 (mkX_going m g)
 rw [goodC_app, goodC_app, r1, r2]
 exact ⟨g1, g2, g3⟩
theorem crossL_good (m : MacV) (l : List Int) : ∀ (gs : List Int) (A : List Int), (A ++ gs.flatMap (orderG m l)).Nodup → goodC (A ++ gs.flatMap (orderG m l)) (gs.flatMap (crossG m l))
 | [], A, hn => trivial
 | g :: gs, A, hn => by
   simp only [List.flatMap_cons] at hn ⊢
   rw [← List.append_assoc] at hn ⊢
   rw [goodC_app]
   refine ⟨crossG_good m l g hn, ?_⟩
   obtain ⟨u1, h1, n1⟩ := crossG_row m l g hn []
   have r1 := congrArg Prod.fst h1
   rw [fold_fst] at r1
   rw [r1]
   exact crossL_good m l gs (A ++ afterG m l g) n1
theorem crossM_good (m : MacV) (l : List Int) : goodC (orderM m l) (crossM m l) := by
 have := crossL_good m l (gearsL m) [] (by simpa [orderM] using orderM_nodup m l)
 simpa [crossM, orderM] using this
theorem crossM_len (m : MacV) (l : List Int) : (crossM m l).length ≤ 3 * m.gears.toNat := by
 have key : ∀ gs : List Int, (gs.flatMap (crossG m l)).length ≤ 3 * gs.length := by
  intro gs
  induction gs with
  | nil => simp
  | cons g gs ih =>
   rw [List.flatMap_cons, List.length_append, List.length_cons]
   have : (crossG m l g).length ≤ 3 := by unfold crossG; exact Nat.le_trans (List.length_filterMap_le _ _) (by decide)
   omega
 have := key (gearsL m)
 simpa [crossM, gearsL] using this
/-- the crossing at a place of the walk. -/
theorem goodC_at {cs : List CrM} {r : List Int} (h : goodC r cs) {k : Nat} (hk : k < cs.length) : ∃ i : Nat, idxO ((cs.take k).foldl rowC r) (cs[k].going) = some (i : Int) ∧ i + 1 < ((cs.take k).foldl rowC r).length := by
 have e : cs = cs.take k ++ cs[k] :: cs.drop (k + 1) := by
  conv => lhs; rw [← List.take_append_drop k cs]
  rw [List.drop_eq_getElem_cons hk]
 rw [e, goodC_app] at h
 exact h.2.1
theorem weaveS_len (m : MacV) (st : List Int × List Int) (l : List Int) : (weaveS m st l).2.length = st.2.length + (crossM m l).length := fold_len _ _ _
end Go.Proofs.YtglpfpdomnllkaaGreat

namespace Go.Proofs.YtglpfpdomnllkaaGreat
set_option maxRecDepth 100000

theorem befo_irrefl (a : Nat × Int) : befo a a = false := by simp [befo]
theorem befo_false {a b : Nat × Int} : befo a b = false ↔ b.1 < a.1 ∨ (b.1 = a.1 ∧ b.2 ≤ a.2) := by
 unfold befo
 simp only [Bool.or_eq_false_iff, Bool.and_eq_false_imp, decide_eq_false_iff_not, decide_eq_true_eq]
 constructor
 ·rintro ⟨h1, h2⟩
  by_cases e : a.1 = b.1
  ·right; have := h2 e; omega
  ·left; omega
 ·rintro (h | ⟨h1, h2⟩)
  ·exact ⟨by omega, fun e => by omega⟩
  ·exact ⟨by omega, fun _ => by omega⟩
theorem foldF_spec (m : MacV) : ∀ (ps : List (Int × Int)) (acc : Option (Nat × Int)),
  (ps.foldl (fun b p => bestS b (meetM m p.1 p.2)) acc = none → acc = none ∧ ∀ p ∈ ps, meetM m p.1 p.2 = none) ∧
  (∀ b, ps.foldl (fun b p => bestS b (meetM m p.1 p.2)) acc = some b → (∀ a, acc = some a → befo a b = false) ∧ (∀ p ∈ ps, ∀ v, meetM m p.1 p.2 = some v → befo v b = false) ∧ (acc = some b ∨ ∃ p ∈ ps, meetM m p.1 p.2 = some b))
 | [], acc => ⟨fun h => ⟨h, fun p hp => absurd hp (by simp)⟩, fun b h => ⟨fun a ha => by rw [List.foldl_nil] at h; rw [ha] at h; cases h; exact befo_irrefl _, fun p hp => absurd hp (by simp), .inl h⟩⟩
 | q :: ps, acc => by
   rw [List.foldl_cons]
   obtain ⟨h1, h2⟩ := foldF_spec m ps (bestS acc (meetM m q.1 q.2))
   constructor
   · intro h
     obtain ⟨k1, k2⟩ := h1 h
     cases hm : meetM m q.1 q.2 with
     | none =>
       rw [hm] at k1
       exact ⟨k1, fun p hp => by rcases List.mem_cons.1 hp with rfl | hp; exact hm; exact k2 p hp⟩
     | some v =>
       rw [hm] at k1
       cases acc with
       | none => cases k1
       | some w => unfold bestS at k1; dsimp only at k1; split at k1 <;> cases k1
   · intro b h
     obtain ⟨k1, k2, k3⟩ := h2 b h
     cases hm : meetM m q.1 q.2 with
     | none =>
       rw [hm] at k1 k3
       refine ⟨k1, fun p hp v hv => ?_, ?_⟩
       · rcases List.mem_cons.1 hp with rfl | hp
         · rw [hm] at hv; cases hv
         · exact k2 p hp v hv
       · rcases k3 with k3 | ⟨p, hp, e⟩
         · exact .inl k3
         · exact .inr ⟨p, List.mem_cons_of_mem _ hp, e⟩
     | some v =>
       rw [hm] at k1 k3
       have low : ∀ c, bestS acc (some v) = some c → (∀ a, acc = some a → befo a c = false) ∧ befo v c = false ∧ (acc = some c ∨ v = c) := by
         intro c hc
         cases acc with
         | none => cases hc; exact ⟨fun a ha => (by cases ha), befo_irrefl _, .inr rfl⟩
         | some w =>
           unfold bestS at hc
           dsimp only at hc
           split at hc
           · rename_i hb
             cases hc
             refine ⟨fun a ha => ?_, befo_irrefl _, .inr rfl⟩
             cases ha
             unfold befo at hb
             simp only [Bool.or_eq_true, Bool.and_eq_true, decide_eq_true_eq] at hb
             rw [befo_false]; omega
           · rename_i hb
             cases hc
             exact ⟨fun a ha => (by cases ha; exact befo_irrefl _), by simpa using hb, .inl rfl⟩
       obtain ⟨c, hc⟩ : ∃ c, bestS acc (some v) = some c := by
         cases acc with
         | none => exact ⟨v, rfl⟩
         | some w => unfold bestS; dsimp only; split <;> exact ⟨_, rfl⟩
       obtain ⟨l1, l2, l3⟩ := low c hc
       have kc := k1 c hc
       have tr : ∀ a, befo a c = false → befo a b = false := by
         intro a ha
         rw [befo_false] at ha kc ⊢
         omega
       refine ⟨fun a ha => tr a (l1 a ha), fun p hp v' hv' => ?_, ?_⟩
       · rcases List.mem_cons.1 hp with rfl | hp
         · rw [hm] at hv'; cases hv'; exact tr _ l2
         · exact k2 p hp v' hv'
       · rcases k3 with k3 | ⟨p, hp, e⟩
         · rw [hc] at k3
           cases k3
           rcases l3 with l3 | l3
           · exact .inl l3
           · exact .inr ⟨q, List.mem_cons_self, by rw [hm, l3]⟩
         · exact .inr ⟨p, List.mem_cons_of_mem _ hp, e⟩
theorem pairsTo_mem {l : List Int} {p : Int × Int} {n : Nat} (hn : n ≤ l.length) : p ∈ pairsTo l n ↔ ∃ i j : Nat, j < i ∧ i < n ∧ p = (atD 0 l i, atD 0 l j) := by
 unfold pairsTo
 simp only [List.mem_flatMap, List.mem_range, List.mem_map]
 constructor
 ·rintro ⟨i, hi, b, hb, rfl⟩
  obtain ⟨j, hj, e⟩ := List.mem_iff_getElem.1 hb
  rw [List.length_take] at hj
  refine ⟨i, j, by omega, hi, ?_⟩
  rw [List.getElem_take] at e
  have hjl : j < l.length := by omega
  rw [← e]
  simp [atD, hjl]
 ·rintro ⟨i, j, hji, hi, rfl⟩
  have hjl : j < l.length := by omega
  refine ⟨i, hi, atD 0 l j, ?_, rfl⟩
  refine List.mem_iff_getElem.2 ⟨j, by simp; omega, ?_⟩
  simp [atD, hjl]
theorem hitM_symm (m : MacV) (x y : Int) : hitM m x y = hitM m y x := by
 unfold hitM
 by_cases e : placeM m x = placeM m y
 ·rw [e]
 ·rw [decide_eq_false e, decide_eq_false (show ¬ placeM m y = placeM m x from fun h => e h.symm), Bool.and_false, Bool.and_false]
/-- no meeting up to some steps. -/
theorem no_meets {m : MacV} {l : List Int} {n : Int} (h : meetsM m l n = false) {k : Nat} (hk : (k : Int) ≤ n) : NoHit m (l.map fun s => itM m s k) := by
 have key : ∀ i j : Nat, j < i → i < l.length → hitM m (itM m (atD 0 l i) k) (itM m (atD 0 l j) k) = false := by
  intro i j hji hi
  have hsp := meetM_spec m (atD 0 l i) (atD 0 l j)
  have hp := (pairsTo_mem (l := l) (n := l.length) (Nat.le_refl _)).2 ⟨i, j, hji, hi, rfl⟩
  obtain ⟨s1, s2⟩ := foldF_spec m (pairsTo l l.length) none
  cases hm : meetM m (atD 0 l i) (atD 0 l j) with
  | none => rw [hm] at hsp; exact hsp k
  | some v =>
   rw [hm] at hsp
   refine hsp.2.2 k ?_
   unfold meetsM at h
   cases hf : firstM m l with
   | none =>
    have := (s1 hf).2 _ hp
    rw [hm] at this; cases this
   | some b =>
    rw [hf] at h
    have hb := (s2 b hf).2.1 _ hp v hm
    rw [befo_false] at hb
    simp only [decide_eq_false_iff_not] at h
    omega
 intro x hx y hy hxy
 obtain ⟨a, ha, rfl⟩ := List.mem_map.1 hx
 obtain ⟨b, hb, rfl⟩ := List.mem_map.1 hy
 obtain ⟨i, hi, rfl⟩ := List.mem_iff_getElem.1 ha
 obtain ⟨j, hj, rfl⟩ := List.mem_iff_getElem.1 hb
 have ei : atD 0 l (i : Int) = l[i] := by simp [atD, hi]
 have ej : atD 0 l (j : Int) = l[j] := by simp [atD, hj]
 rcases Nat.lt_trichotomy j i with hl | hl | hl
 ·rw [← ei, ← ej]; exact key i j hl hi
 ·subst hl; exact absurd rfl hxy
 ·rw [← ei, ← ej, hitM_symm]; exact key j i hl hj
/-- the carriers after some steps. -/
noncomputable def atL (m : MacV) (l : List Int) (k : Nat) : List Int := l.map fun s => itM m s k
theorem atL_succ {m : MacV} {l : List Int} (hl : ∀ x ∈ l, 0 ≤ x ∧ x < 4 * m.gears) (k : Nat) : stepL m (atL m l k) = atL m l (k + 1) := by
 unfold atL stepL
 rw [List.map_map]
 exact List.map_congr_left (fun x hx => (itM_succ (hl x hx).1 (hl x hx).2 k).symm)
theorem atL_rng {m : MacV} {l : List Int} (hl : ∀ x ∈ l, 0 ≤ x ∧ x < 4 * m.gears) (k : Nat) : ∀ x ∈ atL m l k, 0 ≤ x ∧ x < 4 * m.gears := by
 intro x hx
 obtain ⟨y, hy, rfl⟩ := List.mem_map.1 hx
 exact itM_rng (hl y hy).1 (hl y hy).2 k
/-- row and letters after some steps. -/
noncomputable def wvM (m : MacV) (l : List Int) : Nat → List Int × List Int
 | 0 => (orderM m l, [])
 | k + 1 => weaveS m (wvM m l k) (atL m l k)
theorem wvM_row {m : MacV} {l : List Int} (hr : m.ring = false) (hl : ∀ x ∈ l, 0 ≤ x ∧ x < 4 * m.gears) {n : Int} (h : meetsM m l n = false) : ∀ k : Nat, (k : Int) ≤ n → (wvM m l k).1 = orderM m (atL m l k)
 | 0, _ => by
   show orderM m l = _
   have : atL m l 0 = l := by
     unfold atL
     conv => rhs; rw [← List.map_id l]
     exact List.map_congr_left (fun x _ => rfl)
   rw [this]
 | k + 1, hk => by
   have ih := wvM_row hr hl h k (by omega)
   obtain ⟨out', h1, _⟩ := weaveS_row m (atL m l k) (wvM m l k).2
   rw [wvM]
   rw [show wvM m l k = (orderM m (atL m l k), (wvM m l k).2) from Prod.ext ih rfl] at *
   rw [h1]
   have hno := no_meets h hk
   rw [show l.map (fun s => itM m s (k + 1)) = atL m l (k + 1) from rfl, ← atL_succ hl k] at hno
   show afterM m (atL m l k) = _
   rw [order_step hr (atL_rng hl k) hno, atL_succ hl k]
theorem wvM_mono (m : MacV) (l : List Int) : ∀ {j k : Nat}, j ≤ k → (wvM m l j).2.length ≤ (wvM m l k).2.length := by
 intro j k hjk
 induction hjk with
 | refl => exact Nat.le_refl _
 | step _ ih => rw [wvM, weaveS_len]; omega
theorem orderM_len (m : MacV) (l : List Int) : (orderM m l).length ≤ 4 * m.gears.toNat := by
 rw [orderM_seq]
 refine Nat.le_trans (List.length_filterMap_le _ _) ?_
 have key : ∀ gs : List Int, (gs.flatMap (slotsG m)).length = 4 * gs.length := by
  intro gs
  induction gs with
  | nil => rfl
  | cons g gs ih => rw [List.flatMap_cons, List.length_append, ih, slotsG_eq, List.length_cons]; simp only [List.length_cons, List.length_nil]; omega
 rw [key]
 simp [gearsL]
/-- the error ahead of a word. -/
noncomputable def weaveE (m : MacV) (l : List Int) (n : Int) : Int := if loadE m l ≠ 0 then loadE m l else if m.ring = true then 13 else if 12 < l.length then 5 else if n < 0 ∨ 1000 < n then 3 else if meetsM m l n = true then 16 else 0
theorem weaveE_zero {m : MacV} {l : List Int} {n : Int} (h : weaveE m l n = 0) : LoadOk m l ∧ m.ring = false ∧ l.length ≤ 12 ∧ 0 ≤ n ∧ n ≤ 1000 ∧ meetsM m l n = false := by
 unfold weaveE at h
 split at h
 ·rename_i h1; exact absurd h h1
 ·rename_i h1
  split at h
  ·omega
  ·rename_i h2
   split at h
   ·omega
   ·rename_i h3
    split at h
    ·omega
    ·rename_i h4
     split at h
     ·omega
     ·rename_i h5
      exact ⟨loadE_zero (by simpa using h1), by simpa using h2, by omega, by omega, by omega, by simpa using h5⟩
end Go.Proofs.YtglpfpdomnllkaaGreat

namespace Go.Proofs.YtglpfpdomnllkaaGreat
set_option maxRecDepth 100000
theorem other_hit {m : MacV} {x y : Int} (x0 : 0 ≤ x) (x1 : x < 4 * m.gears) (y0 : 0 ≤ y) (y1 : y < 4 * m.gears) (hne : y ≠ x) : (otherM m x == y) = hitM m x y := by
 by_cases h : 0 ≤ placeM m x ∧ sharedM m (placeM m x) = true
 ·obtain ⟨o0, o1, o2, o3⟩ := other_is x0 x1 h.1 h.2
  unfold hitM
  rw [h.2, decide_eq_true h.1, Bool.true_and, Bool.true_and]
  by_cases e : placeM m x = placeM m y
  ·rw [decide_eq_true e]
   have := other_only x0 x1 y0 y1 h.1 h.2 hne e.symm
   simpa using this.symm
  ·rw [decide_eq_false e]
   have : otherM m x ≠ y := fun h2 => e (by rw [← h2, o3])
   simpa using this
 ·have h2 : (decide (0 ≤ placeM m x) && sharedM m (placeM m x)) = false := by
   rw [Bool.and_eq_false_iff]
   by_cases h0 : 0 ≤ placeM m x
   ·exact .inr (by simpa using fun h3 => h ⟨h0, h3⟩)
   ·exact .inl (decide_eq_false h0)
  unfold hitM otherM
  rw [h2, Bool.false_and]
  simp
  omega
/-- the least value that is not negative, or -1. -/
def minF (f : Int × Int → Int) (ps : List (Int × Int)) : Int := ps.foldl (fun b p => if 0 ≤ f p ∧ (b < 0 ∨ f p < b) then f p else b) (-1)
theorem minF_snoc (f : Int × Int → Int) (ps : List (Int × Int)) (p : Int × Int) : minF f (ps ++ [p]) = if 0 ≤ f p ∧ (minF f ps < 0 ∨ f p < minF f ps) then f p else minF f ps := by unfold minF; rw [List.foldl_append]; rfl
theorem minF_spec (f : Int × Int → Int) : ∀ ps : List (Int × Int), (minF f ps = -1 ∧ ∀ p ∈ ps, f p < 0) ∨ (0 ≤ minF f ps ∧ (∃ p ∈ ps, f p = minF f ps) ∧ ∀ p ∈ ps, 0 ≤ f p → minF f ps ≤ f p) := by
 suffices h : ∀ ps : List (Int × Int), (minF f ps.reverse = -1 ∧ ∀ p ∈ ps, f p < 0) ∨ (0 ≤ minF f ps.reverse ∧ (∃ p ∈ ps, f p = minF f ps.reverse) ∧ ∀ p ∈ ps, 0 ≤ f p → minF f ps.reverse ≤ f p) by
  intro ps
  have := h ps.reverse
  rw [List.reverse_reverse] at this
  simpa using this
 intro ps
 induction ps with
 | nil => exact .inl ⟨rfl, fun p hp => by cases hp⟩
 | cons q r ih =>
  rw [List.reverse_cons, minF_snoc]
  generalize minF f r.reverse = b at ih ⊢
  by_cases hc : 0 ≤ f q ∧ (b < 0 ∨ f q < b)
  ·rw [if_pos hc]
   refine .inr ⟨hc.1, ⟨q, List.mem_cons_self, rfl⟩, fun p hp h0 => ?_⟩
   rcases List.mem_cons.1 hp with rfl | hp
   ·exact Int.le_refl _
   ·rcases ih with ⟨_, h2⟩ | ⟨h1, _, h3⟩
    ·have := h2 p hp; omega
    ·have := h3 p hp h0; omega
  ·rw [if_neg hc]
   rcases ih with ⟨h1, h2⟩ | ⟨h1, ⟨p, hp, e⟩, h3⟩
   ·refine .inl ⟨h1, fun p hp => ?_⟩
    rcases List.mem_cons.1 hp with rfl | hp
    ·omega
    ·exact h2 p hp
   ·refine .inr ⟨h1, ⟨p, List.mem_cons_of_mem _ hp, e⟩, fun p hp h0 => ?_⟩
    rcases List.mem_cons.1 hp with rfl | hp
    ·omega
    ·exact h3 p hp h0
/-- the steps up to the first meeting of two, or -1. -/
noncomputable def pairN (m : MacV) (p : Int × Int) : Int := match meetM m p.1 p.2 with | some v => (v.1 : Int) | none => -1
/-- the place at which two meet now, or -1. -/
def hereN (m : MacV) (p : Int × Int) : Int := if hitM m p.1 p.2 then placeM m p.1 else -1
theorem hit_place {m : MacV} {x y : Int} (h : hitM m x y = true) : 0 ≤ placeM m x := by
 unfold hitM at h
 simp only [Bool.and_eq_true, decide_eq_true_eq] at h
 exact h.1.1
theorem hereN_nonneg {m : MacV} {p : Int × Int} : 0 ≤ hereN m p ↔ hitM m p.1 p.2 = true := by
 unfold hereN
 split
 ·rename_i h; exact ⟨fun _ => h, fun _ => hit_place h⟩
 ·rename_i h; exact ⟨fun h2 => by omega, fun h2 => absurd h2 h⟩
noncomputable def nowM (m : MacV) (l : List Int) : Int := minF (hereN m) (pairsTo l l.length)
noncomputable def meetN (m : MacV) (l : List Int) : Int := minF (pairN m) (pairsTo l l.length)
theorem pairN_nonneg {m : MacV} {p : Int × Int} : 0 ≤ pairN m p ↔ meetM m p.1 p.2 ≠ none := by
 unfold pairN
 cases meetM m p.1 p.2 with
 | none => simp
 | some v => simp
theorem pairsTo_map {l : List Int} {f : Int → Int} {p : Int × Int} : p ∈ pairsTo (l.map f) (l.map f).length ↔ ∃ q ∈ pairsTo l l.length, p = (f q.1, f q.2) := by
 have at_map : ∀ i : Nat, i < l.length → atD 0 (l.map f) i = f (atD 0 l i) := fun i hi => by simp [atD, hi]
 rw [pairsTo_mem (Nat.le_refl _)]
 constructor
 ·rintro ⟨i, j, hji, hi, rfl⟩
  rw [List.length_map] at hi
  refine ⟨(atD 0 l i, atD 0 l j), (pairsTo_mem (Nat.le_refl _)).2 ⟨i, j, hji, hi, rfl⟩, ?_⟩
  rw [at_map i hi, at_map j (by omega)]
 ·rintro ⟨q, hq, rfl⟩
  obtain ⟨i, j, hji, hi, rfl⟩ := (pairsTo_mem (Nat.le_refl _)).1 hq
  refine ⟨i, j, hji, by rw [List.length_map]; exact hi, ?_⟩
  rw [at_map i hi, at_map j (by omega)]
theorem meet_refN {m : MacV} {l : List Int} (h : firstM m l = none) : meetN m l = -1 := by
 obtain ⟨s1, _⟩ := foldF_spec m (pairsTo l l.length) none
 have k := (s1 h).2
 rcases minF_spec (pairN m) (pairsTo l l.length) with h1 | ⟨h1, ⟨p, hp, e⟩, _⟩
 ·exact h1.1
 ·exfalso
  rw [← e, pairN_nonneg] at h1
  exact h1 (k p hp)
theorem meet_refS {m : MacV} {l : List Int} {n : Nat} {pl : Int} (h : firstM m l = some (n, pl)) : meetN m l = n ∧ nowM m (l.map fun s => itM m s n) = pl := by
 obtain ⟨_, s2⟩ := foldF_spec m (pairsTo l l.length) none
 obtain ⟨_, k2, k3⟩ := s2 _ h
 obtain ⟨q, hq, hqm⟩ : ∃ p ∈ pairsTo l l.length, meetM m p.1 p.2 = some (n, pl) := by
  rcases k3 with k3 | k3
  ·cases k3
  ·exact k3
 have hN : meetN m l = n := by
  have hqn : pairN m q = n := by unfold pairN; rw [hqm]
  rcases minF_spec (pairN m) (pairsTo l l.length) with h1 | ⟨h1, ⟨p, hp, e⟩, h3⟩
  ·have := h1.2 q hq; omega
  ·have a := h3 q hq (by omega)
   rw [hqn] at a
   refine Int.le_antisymm a ?_
   rw [← e] at h1
   have h1' := pairN_nonneg.1 h1
   cases hv : meetM m p.1 p.2 with
   | none => exact absurd hv h1'
   | some v =>
    have b := k2 p hp v hv
    rw [befo_false] at b
    have ev : pairN m p = v.1 := by unfold pairN; rw [hv]
    show (n : Int) ≤ minF (pairN m) (pairsTo l l.length)
    rw [← e, ev]
    dsimp only at b
    omega
 refine ⟨hN, ?_⟩
 have hsp := meetM_spec m q.1 q.2
 rw [hqm] at hsp
 obtain ⟨g1, g2, g3⟩ := hsp
 have hqh : hereN m (itM m q.1 n, itM m q.2 n) = pl := by unfold hereN; rw [if_pos g1, g2]
 have hpl0 : 0 ≤ pl := by rw [g2]; exact hit_place g1
 have hqm2 := (pairsTo_map (f := fun s => itM m s n)).2 ⟨q, hq, rfl⟩
 rcases minF_spec (hereN m) (pairsTo (l.map fun s => itM m s n) (l.map fun s => itM m s n).length) with h1 | ⟨h1, ⟨p, hp, e⟩, h3⟩
 ·have := h1.2 _ hqm2; omega
 ·have a := h3 _ hqm2 (by rw [hqh]; exact hpl0)
  rw [hqh] at a
  refine Int.le_antisymm a ?_
  show pl ≤ minF (hereN m) _
  obtain ⟨p0, hp0, rfl⟩ := pairsTo_map.1 hp
  rw [← e] at h1
  have hh := hereN_nonneg.1 h1
  dsimp only at hh
  cases hv : meetM m p0.1 p0.2 with
  | none =>
   have hs := meetM_spec m p0.1 p0.2
   rw [hv] at hs
   have := hs n
   rw [this] at hh; cases hh
  | some v =>
   have b := k2 p0 hp0 v hv
   have hs := meetM_spec m p0.1 p0.2
   rw [hv] at hs
   obtain ⟨t1, t2, t3⟩ := hs
   have hvn : ¬ n < v.1 := fun hlt => by rw [t3 n hlt] at hh; cases hh
   rw [befo_false] at b
   dsimp only at b
   have hvn2 : v.1 = n := by omega
   have hpv : pl ≤ v.2 := by omega
   rw [← e]
   unfold hereN
   rw [if_pos hh]
   dsimp only
   rw [hvn2] at t2
   rw [← t2]
   exact hpv
end Go.Proofs.YtglpfpdomnllkaaGreat
