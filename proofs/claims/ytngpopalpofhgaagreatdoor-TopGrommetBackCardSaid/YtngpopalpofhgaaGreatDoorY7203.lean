/- Contracts and plain facts that the claim uses (BsD BsE BsF RPA RUA CnA TuP RmP AwN WoP GbP). Conditions: as each one states. -/
import Derived.Test.YtngpopalpofhgaaGreatDoorProg
import Derived.WalkKit
import Derived.WalkSpells
import Derived.Maps.AppendAt
import Derived.Deep.Quiet
import Derived.Maps.Own
import Derived.Maps.OwnSet
import Derived.Maps.Views
import Derived.WalkLawsBesides
import Derived.Laws.EntriesVeiled
import Derived.Deep.QuietTactic
import Derived.BigQuiet
import Derived.Deep.RegionHeld3
import Derived.Deep.AppendLies
import Derived.Deep.RegionHeldLaw
import Derived.Deep.RegionLaw
import Derived.RangeFuncNested
import Derived.RangeFuncBound
import Derived.RangeFuncCalls
import Derived.RangeFuncLeaves
import Derived.RangeFuncFrom
import Derived.Shelf.Abstract
import Derived.Shelf.RegionOpen
import Derived.OwnWalkIn
import Derived.TacticsInMore
import Derived.LoopNIn
import Derived.LoopIn
import Derived.Shelf.Strings.Trim
import Derived.Shelf.Strings.SlTrimAscii
import Derived.Shelf.Strings.Repeat
import Derived.Shelf.Strings.OnBuilder
import Derived.Shelf.Strconv.Itoa1
import Derived.Shelf.Strconv.Itoa3
import Derived.Shelf.LaysM
import Derived.Ground.Names2Prog
import Derived.Lib.OthersKept
import Derived.StillTail
import Derived.Laws.Tables
import Derived.IntWalk
import Derived.Laws.CopyOwn
import Derived.BigRegion
import Derived.ChangeAlike
import Derived.Shelf.Bits.Mul64
import Derived.Lib.ItoaLen
import Derived.Lib.ItoaMem
import Derived.Sort.LoopGhostIn
import Derived.Maps.RangeWalk
import Derived.Maps.Ext
import Derived.Deep.LoopGhost
import Derived.Laws.IdiomStrings
import Derived.Sort.QuietThIn
import Derived.Lib.Split
import Derived.Lib.AtoiAll
import Derived.Lib.AppendIntMem
import Derived.Lib.SmallJoins
import Derived.LaidSub
import Derived.Lib.LaidTab
import Derived.Lib.AtoiErrMem
import Derived.Stop.LaidErr
import Derived.ReadAgain
import Derived.ChangeSlices
import Derived.OpenShut
import Derived.ProofKit
import Derived.Deep.DeepHandedRow
import Derived.Deep.SlicePairs
import Derived.Test.YtngpopalpofhgaaGreatDoorXz01
import Derived.Test.YtngpopalpofhgaaGreatDoorXz02
import Derived.Test.YtngpopalpofhgaaGreatDoorXz03
import Derived.Test.YtngpopalpofhgaaGreatDoorXz04
import Derived.Test.YtngpopalpofhgaaGreatDoorXz05
import Derived.Test.YtngpopalpofhgaaGreatDoorXz06
import Derived.Test.YtngpopalpofhgaaGreatDoorXz07
import Derived.Test.YtngpopalpofhgaaGreatDoorXz08
import Derived.Test.YtngpopalpofhgaaGreatDoorXz09
import Derived.Test.YtngpopalpofhgaaGreatDoorY7201
import Derived.Test.YtngpopalpofhgaaGreatDoorY7202
set_option linter.all false

namespace Go.Proofs.YtngpopalpofhgaaGreatDoor
open Go.RowKit
set_option maxHeartbeats 8000000
set_option maxRecDepth 100000
section
variable {B : Nat} {w0 w : World}
/-- a piece takes the place of another one. -/
theorem SL.replace {A R : List Pc} {p : Pc} (h : SL B w0 w (p :: (A ++ R))) (k : Nat) (hk : k < R.length) : SL B w0 w (A ++ R.set k p) := by
 refine h.pick ((List.range A.length).map (fun j => j + 1) ++ (List.range R.length).map (fun j => if j = k then 0 else A.length + 1 + j)) ?_ _ ?_
 ·rw [List.nodup_append]
  refine ⟨?_, ?_, ?_⟩
  ·exact List.pairwise_map.2 (List.nodup_range.imp fun h e => h (by omega))
  ·exact List.pairwise_map.2 (List.nodup_range.imp fun h e => h (by split at e <;> split at e <;> omega))
  ·intro a ha b hb e
   obtain ⟨x, hx, rfl⟩ := List.mem_map.1 ha
   obtain ⟨y, hy, rfl⟩ := List.mem_map.1 hb
   have := List.mem_range.1 hx
   split at e <;> omega
 ·rw [List.map_append, List.map_append, List.map_map, List.map_map]
  congr 1
  ·refine List.ext_getElem? fun i => ?_
   rw [List.getElem?_map, List.getElem?_map]
   by_cases hi : i < A.length
   ·rw [List.getElem?_range hi]
    simp only [Option.map_some, Function.comp]
    rw [List.getElem?_cons_succ, List.getElem?_append_left hi, List.getElem?_eq_getElem hi]
    rfl
   ·rw [List.getElem?_eq_none (by simp; omega), List.getElem?_eq_none (by omega)]; rfl
  ·refine List.ext_getElem? fun i => ?_
   rw [List.getElem?_map, List.getElem?_map]
   by_cases hi : i < R.length
   ·rw [List.getElem?_range hi, List.getElem?_set]
    simp only [Option.map_some, Function.comp]
    by_cases e : i = k
    ·rw [if_pos e, if_pos e.symm, if_pos (by omega)]
     rfl
    ·rw [if_neg e, if_neg (fun h => e h.symm), show A.length + 1 + i = (A.length + i) + 1 by omega, List.getElem?_cons_succ, List.getElem?_append_right (by omega), Nat.add_sub_cancel_left, List.getElem?_eq_getElem hi]
     rfl
   ·rw [List.getElem?_eq_none (by simp; omega), List.getElem?_eq_none (by simp; omega)]; rfl
/-- a row of an owned list of lists. -/
theorem fx_row {pre : List Pc} {H : List SlH} {X : List (List Int)} {n : Nat} (h : SL B w0 w (pre ++ (mxQ H X).map inP)) (hH : H.length = X.length) (hX : ∀ r ∈ X, r.length = n) {k : Nat} (hk : k < X.length) :
  ∃ a c, atD ((none, 0, 0) : SlH) H (k : Int) = (a, n, c) ∧ Ints w a c (nth X k) := by
 have haH : k < H.length := by omega
 have eH : atD ((none, 0, 0) : SlH) H (k : Int) = H[k] := by simp [atD, haH]
 have eM : nth X k = X[k] := by simp [nth, atD, hk]
 have hi : (pre ++ (mxQ H X).map inP)[pre.length + k]? = some (pOwn cInt 1 3 (cSl H[k]) X[k]) := by
  rw [List.getElem?_append_right (by omega), Nat.add_sub_cancel_left, List.getElem?_map]
  unfold mxQ
  rw [List.getElem?_eq_getElem (by rw [List.length_zip]; omega), List.getElem_zip]
  rfl
 obtain ⟨ad, c, e1, hR⟩ := h.slice _ hi
 have hrl : (X[k]).length = n := hX _ (List.getElem_mem _)
 have e2 : H[k] = (ad, n, c) := by
  generalize H[k] = q at e1 ⊢
  obtain ⟨x1, x2, x3⟩ := q
  simp only [cSl, Value.slice.injEq] at e1
  obtain ⟨rfl, rfl, rfl⟩ := e1
  rw [hrl]
 exact ⟨ad, c, by rw [eH, e2], by rw [eM]; exact hR⟩
/-- the pieces of the factors: the box, the handles, the rows. -/
def PL (Bx G m cp : Nat) (H : List SlH) (X : List (List Int)) : List Pc := [pBlk Bx (.cells #[.slice (some ⟨G, 0, none⟩) m cp] 210), pOwn cSl 1 211 (.slice (some ⟨G, 0, none⟩) m cp) H] ++ (mxQ H X).map inP
theorem zip_set2 : ∀ (H : List SlH) (M : List (List Int)) (i : Nat) (x : SlH) (v : List Int), (H.set i x).zip (M.set i v) = (H.zip M).set i (x, v)
 | [], _, _, _, _ => by simp
 | x :: H, [], i, _, v => by cases i <;> simp
 | x :: H, m :: M, 0, _, v => rfl
 | x :: H, m :: M, i + 1, y, v => by
   simp only [List.set_cons_succ, List.zip_cons_cons]
   rw [zip_set2 H M i y v]
/-- two rows are new. -/
theorem pull_pieces {Bx G m cp : Nat} {H : List SlH} {X : List (List Int)} {k : Nat} {x1 x2 : SlH} {r1 r2 : List Int} (hH : H.length = X.length) (hk : k + 1 < X.length)
  (h : SL B w0 w (pOwn cInt 1 3 (cSl x2) r2 :: ([pOwn cInt 1 3 (cSl x1) r1, pBlk Bx (.cells #[.slice (some ⟨G, 0, none⟩) m cp] 210), pOwn cSl 1 211 (.slice (some ⟨G, 0, none⟩) m cp) ((H.set k x1).set (k + 1) x2)] ++ (mxQ H X).map inP))) :
  SL B w0 w (PL Bx G m cp ((H.set k x1).set (k + 1) x2) ((X.set k r1).set (k + 1) r2)) := by
 have hl : ((mxQ H X).map inP).length = X.length := by unfold mxQ; rw [List.length_map, List.length_zip]; omega
 have h1 := h.replace (k + 1) (by omega)
 have h2 : SL B w0 w (pOwn cInt 1 3 (cSl x1) r1 :: ([pBlk Bx (.cells #[.slice (some ⟨G, 0, none⟩) m cp] 210), pOwn cSl 1 211 (.slice (some ⟨G, 0, none⟩) m cp) ((H.set k x1).set (k + 1) x2)] ++ ((mxQ H X).map inP).set (k + 1) (pOwn cInt 1 3 (cSl x2) r2))) := h1
 have h3 := h2.replace k (by rw [List.length_set]; omega)
 have e : (mxQ ((H.set k x1).set (k + 1) x2) ((X.set k r1).set (k + 1) r2)).map inP = (((mxQ H X).map inP).set (k + 1) (pOwn cInt 1 3 (cSl x2) r2)).set k (pOwn cInt 1 3 (cSl x1) r1) := by
  unfold mxQ
  rw [zip_set2, zip_set2, List.map_set, List.map_set, List.set_comm _ _ (by omega)]
  rfl
 unfold PL
 rw [e]
 exact h3
end
theorem sto_smp (u : SlH) (w : World) (p : Addr) (h1 : (w.cell? p).isSome = true) (h2 : w.frozen? p = false) : (Instr.storeAt 211 (.pointer (some p)) (cSl u)).run Tryz.prog w = .ok () (w.setCell p (cSl u)) := by
 obtain ⟨v, hv⟩ := Option.isSome_iff_exists.1 h1
 simp [go_sem, hv, h2]
theorem get_mapS {l : List SlH} {k : Nat} {x : SlH} (h1 : k < l.length) (e : atD ((none, 0, 0) : SlH) l (k : Int) = x) : l[k]?.map cSl = some (cSl x) := by
 rw [← e]
 simp [atD, h1]
theorem push1_any {B : Nat} {w0 w : World} {Bx G m cp n : Nat} {H : List SlH} {X : List (List Int)} (hS : SL B w0 w (PL Bx G m cp H X)) (hH : H.length = m) (hX : X.length = m) (hv : ∀ x ∈ X, VP n x) (hn1 : 1 ≤ n) (hn : n ≤ 1000) (hm : m ≤ 1000) (k : Nat) (hk : k + 1 < m) :
  Calls Tryz.prog 219 #[.int .i64 k, .pointer (some ⟨Bx, 0, none⟩)] w fun r w' => (folP n (nth X k) (nth X (k + 1)) = none → r = .returned (.bool false) ∧ SL B w0 w' (PL Bx G m cp H X)) ∧
   (∀ i, folP n (nth X k) (nth X (k + 1)) = some i → r = .returned (.bool true) ∧ ∃ H', H'.length = m ∧ SL B w0 w' (PL Bx G m cp H' (pullX X k i))) := by
 unfold PL at hS
 have hHX : H.length = X.length := by omega
 have hrl : ∀ r ∈ X, r.length = n := fun r hr => (hv r hr).2
 obtain ⟨a1, c1, eH1, hR1⟩ := fx_row hS hHX hrl (k := k) (by omega)
 obtain ⟨a2, c2, eH2, hR2⟩ := fx_row hS hHX hrl (k := k + 1) (by omega)
 have v1 := vs_nth (n := n) (X := X) hv (k := k) (by omega)
 have v2 := vs_nth (n := n) (X := X) hv (k := k + 1) (by omega)
 obtain ⟨p1, hp1⟩ : ∃ p, p = nth X k := ⟨_, rfl⟩
 obtain ⟨p2, hp2⟩ : ∃ p, p = nth X (k + 1) := ⟨_, rfl⟩
 have HPX : Hid (∀ i, pullX X k i = (X.set k (bkP p1 i)).set (k + 1) (swpL p2 i)) := hid fun i => by rw [hp1, hp2]; rfl
 rw [← hp1] at hR1 v1 ⊢
 rw [← hp2] at hR2 v2 ⊢
 have qb := (hS.blk 0 rfl).1
 have hRo := hS.rd 1 rfl
 obtain ⟨K1, hK1⟩ : ∃ K : Int, K = ((k + 1 : Nat) : Int) := ⟨_, rfl⟩
 have hw1 : IntKind.i64.wrap ((k : Int) + 1) = K1 := by rw [hK1]; exact IntWalk.i64_in _ (by omega)
 have hK0 : 0 ≤ K1 := by omega
 have hKm : K1 < (m : Int) := by omega
 have hKH : K1 < (H.length : Int) := by omega
 have hkH : (k : Int) < (H.length : Int) := by omega
 have hkm : (k : Int) < (m : Int) := by omega
 have HE1 := hid eH1; have HE2 : Hid (atD ((none, 0, 0) : SlH) H K1 = (a2, n, c2)) := hid (by rw [hK1]; exact eH2)
 have HHL := hid hH; have HK1 := hid hK1; have HHX := hid hHX
 have HCA : Hid (H[k]?.map cSl = some (cSl (a1, n, c1))) := hid (get_mapS (by omega) eH1)
 have HCB : Hid (H[k + 1]?.map cSl = some (cSl (a2, n, c2))) := hid (get_mapS (by omega) eH2)
 have HXK : Hid (k + 1 < X.length) := hid (by omega)
 have HFO : Hid (∀ w', Below w.heap.size w w' → Calls Tryz.prog 220 #[.slice a1 n c1, .slice a2 n c2] w' fun r w'' => r = .returned (folV n p1 p2) ∧ Below w'.heap.size w' w'') := hid fun w' hb => follows_any a1 a2 c1 c2 n p1 p2 w' (hR1.below hb) (hR2.below hb) v1 v2 hn1 hn
 cases hf : folP n p1 p2 with
 | none =>
  have eV : folV n p1 p2 = .tuple #[.int .i64 0, .bool false] := by unfold folV; rw [hf]; rfl
  rw [eV] at HFO
  clear hf eV hp1 hp2 hv v1 v2 eH1 eH2 hHX hrl hR1 hR2 hK1 hH hX
  go_enter Tryz.func219, Tryz.ntmps219
  go_wp2_with fail
  refine wp_region_q kR kR ?_
  repeat (first | ((with_reducible refine wpB_load F_smps wU wU (by assumption) wU ?_); (try simp only [Act.put, pA, pB, pC])) | (((with_reducible refine wpB_idx2 ((none, 0, 0) : SlH) E_smps F_smp cSl1 wU (HHL.out) wU (hRo) oD oD (fun _ => wU) (fun _ => ?_)); (try simp only [Act.put, pA, pB, pC]); (try simp only [cInt])); first | rw [HE1.out] | rw [HE2.out]) | ((refine wpB_call (.tuple #[.int .i64 0, .bool false]) wU (fun w' => ?_) (fun w' hw' => HFO.out w' hw') ?_); (focus (go_simp; done)); (try simp only [Act.put, pA, pB, pC])) |  ((with_reducible refine wpB_load (by first | exact F_int | exact F_u64s) wU wU (by assumption) wU ?_); (try simp only [Act.put, pA, pB, pC])) | ((with_reducible refine wpB_loadS (n := 2) (us := #[_, _]) A_int kR wU wU (by assumption) wU wU ?_); (try simp only [Act.put, pA, pB, pC])) | ((with_reducible refine wpB_loadS (n := 4) (us := #[_, _, _, _]) A_frac kR wU wU (by assumption) wU wU ?_); (try simp only [Act.put, pA, pB, pC])) | ((refine wpQ_oneG ?_ wU (fun w' => ?_) ?_); rotate_left; (go_simp; rfl); (try simp only [Act.put, pA, pB, pC])))
  refine wpQuiet_nil ?_
  intro w1 hb1
  go_wp2_with fail
  go_ret
  exact ⟨fun _ => ⟨rfl, hS.mono hb1⟩, fun i h => by cases h⟩
 | some i =>
  have eV : folV n p1 p2 = .tuple #[.int .i64 i, .bool true] := by unfold folV; rw [hf]; rfl
  rw [eV] at HFO
  obtain ⟨hi1, hi2, hi3⟩ := fol_some hf
  have hi : i + 1 < n := by omega
  have CBK := fun (a : Option Addr) (c : Nat) w h => backed_any a c p1 i w h v1.1 (by rw [v1.2]; exact hi) (by rw [v1.2]; exact hn)
  have CFR := fun (a : Option Addr) (c : Nat) w h => fronted_any a c p2 i w h (by rw [v2.2]; exact hi) (by rw [v2.2]; exact hn)
  rw [v1.2] at CBK
  rw [v2.2] at CFR
  have hbl : (bkP p1 i).length = n := (v1.bk hi).2
  have hsl : (swpL p2 i).length = n := (v2.fr hi).2
  have HBK := hid CBK; have HFR := hid CFR; have HBL := hid hbl; have HSL := hid hsl
  clear hf eV hp1 hp2 hv v1 v2 eH1 eH2 hHX hrl hK1 hH hX CBK CFR hbl hsl hi1 hi2 hi3 hi
  go_enter Tryz.func219, Tryz.ntmps219
  go_wp2_with fail
  refine wp_region_q kR kR ?_
  repeat (first | ((with_reducible refine wpB_load F_smps wU wU (by assumption) wU ?_); (try simp only [Act.put, pA, pB, pC])) | (((with_reducible refine wpB_idx2 ((none, 0, 0) : SlH) E_smps F_smp cSl1 wU (HHL.out) wU (hRo) oD oD (fun _ => wU) (fun _ => ?_)); (try simp only [Act.put, pA, pB, pC]); (try simp only [cInt])); first | rw [HE1.out] | rw [HE2.out]) | ((refine wpB_call (.tuple #[.int .i64 i, .bool true]) wU (fun w' => ?_) (fun w' hw' => HFO.out w' hw') ?_); (focus (go_simp; done)); (try simp only [Act.put, pA, pB, pC])) |  ((with_reducible refine wpB_load (by first | exact F_int | exact F_u64s) wU wU (by assumption) wU ?_); (try simp only [Act.put, pA, pB, pC])) | ((with_reducible refine wpB_loadS (n := 2) (us := #[_, _]) A_int kR wU wU (by assumption) wU wU ?_); (try simp only [Act.put, pA, pB, pC])) | ((with_reducible refine wpB_loadS (n := 4) (us := #[_, _, _, _]) A_frac kR wU wU (by assumption) wU wU ?_); (try simp only [Act.put, pA, pB, pC])) | ((refine wpQ_oneG ?_ wU (fun w' => ?_) ?_); rotate_left; (go_simp; rfl); (try simp only [Act.put, pA, pB, pC])))
  refine wpQuiet_nil ?_
  intro w1 hb1
  have hS1 := hS.mono hb1
  replace hR1 := hR1.below hb1
  replace hR2 := hR2.below hb1
  have q1 := (hS1.blk 0 rfl).1
  clear hS qb hRo HFO
  go_wp2_with fail
  have kc : ∀ V : World, (Below B w0 V ∧ V.heap[Bx]? = some (.cells #[.slice (some ⟨G, 0, none⟩) m cp] 210)) → V.cell? ⟨Bx, 0, none⟩ = some (.slice (some ⟨G, 0, none⟩) m cp) := fun V h => by simp [World.cell?, h.2]
  refine wp_regionK (C := (fun V => Below B w0 V ∧ V.heap[Bx]? = some (.cells #[.slice (some ⟨G, 0, none⟩) m cp] 210))) [0, 1, 2, 3, 4, 5, 6, 7, 9, 11, 12, 13, 14, 16] [_, _, _, _, _, _, _, _, _, _, _, _, _, _] 8 (by simp only [List.map_cons, List.map_nil, List.getElem?_toArray]; rfl) rfl kR kR kR (⟨hS1.b.drew, q1⟩) ?_
  refine ⟨_, yieldsK_cellC F_smps (fun V h => kc V h) wU wU, ?_⟩
  go_frame
  refine ⟨.int .i64 (k : Int), yieldsK_val wU (fun w' => by first | (go_simp; done) | (go_simp; rfl)), ?_⟩
  go_frame
  refine ⟨_, yieldsK_cellC F_smps (fun V h => kc V h) wU wU, ?_⟩
  go_frame
  refine ⟨.int .i64 (k : Int), yieldsK_val wU (fun w' => by first | (go_simp; done) | (go_simp; rfl)), ?_⟩
  go_frame
  refine ⟨.int .i64 K1, yieldsK_val wU (fun w' => by first | (go_simp; done) | (go_simp; rfl)), ?_⟩
  go_frame
  refine ⟨_, yieldsK_cellC F_smps (fun V h => kc V h) wU wU, ?_⟩
  go_frame
  refine ⟨.int .i64 (k : Int), yieldsK_val wU (fun w' => by first | (go_simp; done) | (go_simp; rfl)), ?_⟩
  go_frame
  refine ⟨.pointer (some ⟨G, k, none⟩), yieldsK_val wU (fun w' => by first | (go_simp; done) | (go_simp; rfl)), ?_⟩
  go_frame
  refine ⟨.int .i64 (i : Int), yieldsK_val wU (fun w' => by first | (go_simp; done) | (go_simp; rfl)), ?_⟩
  go_frame
  refine ⟨_, yieldsK_cellC F_smps (fun V h => kc V h) wU wU, ?_⟩
  go_frame
  refine ⟨.int .i64 (k : Int), yieldsK_val wU (fun w' => by first | (go_simp; done) | (go_simp; rfl)), ?_⟩
  go_frame
  refine ⟨.int .i64 K1, yieldsK_val wU (fun w' => by first | (go_simp; done) | (go_simp; rfl)), ?_⟩
  go_frame
  refine ⟨.pointer (some ⟨G, K1.toNat, none⟩), yieldsK_val wU (fun w' => by first | (go_simp; done) | (go_simp; rfl)), ?_⟩
  go_frame
  refine ⟨.int .i64 (i : Int), yieldsK_val wU (fun w' => by first | (go_simp; done) | (go_simp; rfl)), ?_⟩
  go_frame
  unfold wpPureK
  have hVd : ({ w1 with drawn := w1.drawn + 1 } : World) = w1.drew := rfl
  rw [hVd]
  clear hVd
  obtain ⟨W, hW⟩ : ∃ W, W = w1.drew := ⟨_, rfl⟩
  have hSW : SL B w0 W ([pBlk Bx (.cells #[.slice (some ⟨G, 0, none⟩) m cp] 210), pOwn cSl 1 211 (.slice (some ⟨G, 0, none⟩) m cp) H] ++ (mxQ H X).map inP) := by rw [hW]; exact hS1.drew
  have hR1W : Ints W a1 c1 p1 := by rw [hW]; exact hR1.below (Below.refl _ _).drew
  have hR2W : Ints W a2 c2 p2 := by rw [hW]; exact hR2.below (Below.refl _ _).drew
  rw [← hW]
  clear hW hS1 hR1 hR2 q1 kc
  obtain ⟨g0, eg0, -, cA, -, -⟩ := hSW.setOwn cSl1 1 rfl (k : Int) (by omega) hkH (none, 0, 0)
  cases eg0
  obtain ⟨g0, eg0, -, cB, -, -⟩ := hSW.setOwn cSl1 1 rfl K1 hK0 hKH (none, 0, 0)
  cases eg0
  rw [show ((k : Int)).toNat = k by omega, HCA.out] at cA
  have eK : K1.toNat = k + 1 := by have := HK1.out; omega
  rw [eK, HCB.out] at cB
  rw [eK]
  clear eK
  simp only [cSl] at cA cB
  refine wpAnyC_on [8, 15] kR (by simp) ?_
  simp only [List.forall_mem_cons, List.not_mem_nil, false_implies, implies_true, and_true]
  refine ⟨?_, ?_⟩
  ·as_aux_lemma =>
   refine wpOp_value (v := .slice a1 n c1) (w' := W) (by rw [List.getElem?_toArray]; rfl) wU (by first | (go_simp; done) | (go_simp; rfl) | (simp [execOp, Act.eval, Result.andThen]; done)) ?_
   refine ⟨⟨hSW.b, (hSW.blk 0 rfl).1⟩, ?_⟩
   go_frame
   refine wpAnyC_on [10, 15] kR (by simp) ?_
   simp only [List.forall_mem_cons, List.not_mem_nil, false_implies, implies_true, and_true]
   refine ⟨?_, ?_⟩
   ·as_aux_lemma =>
    refine wpOp_call (f := 173) (args := #[.slice a1 n c1, .int .i64 (i : Int)]) (by rw [List.getElem?_toArray]; rfl) wU (by first | (go_simp; done) | (simp [execOp, Act.eval, Result.andThen]; done) | (simp [execOp, Act.eval, Result.andThen]; rfl)) ?_
    refine (HBK.out a1 c1 _ hR1W).mono ?_
    rintro e V1 ⟨v1, rfl, ho1, hb1⟩
    obtain ⟨x1, y1, rfl, hr1, _, _⟩ := ho1.reps
    rw [HBL.out]
    have hS2 := hSW.call (SL.ofOwn ho1 hb1)
    simp only [List.cons_append, List.nil_append] at hS2
    rw [HBL.out] at hS2
    have hR2V := hR2W.below hb1
    have cBV : V1.cell? ⟨G, k + 1, none⟩ = some (.slice a2 n c2) := (hb1.cell (p := ⟨G, k + 1, none⟩) (World.block_lt_of_cell? _ _ cB)).trans cB
    refine ⟨_, rfl, ⟨hS2.b, (hS2.blk 1 rfl).1⟩, ?_⟩
    go_frame
    refine wpAnyC_on [15] kR (by simp) ?_
    simp only [List.forall_mem_cons, List.not_mem_nil, false_implies, implies_true, and_true]
    refine wpOp_value (v := .slice a2 n c2) (w' := V1) (by rw [List.getElem?_toArray]; rfl) wU (by first | (go_simp; done) | (go_simp; rfl) | (simp [execOp, Act.eval, Result.andThen]; done)) ?_
    refine ⟨⟨hS2.b, (hS2.blk 1 rfl).1⟩, ?_⟩
    go_frame
    refine wpAnyC_on [17] kR (by simp) ?_
    simp only [List.forall_mem_cons, List.not_mem_nil, false_implies, implies_true, and_true]
    refine wpOp_call (f := 169) (args := #[.slice a2 n c2, .int .i64 (i : Int)]) (by rw [List.getElem?_toArray]; rfl) wU (by first | (go_simp; done) | (simp [execOp, Act.eval, Result.andThen]; done) | (simp [execOp, Act.eval, Result.andThen]; rfl)) ?_
    refine (HFR.out a2 c2 _ hR2V).mono ?_
    rintro e V2 ⟨v2, rfl, ho2, hb2⟩
    obtain ⟨x2, y2, rfl, hr2, _, _⟩ := ho2.reps
    rw [HSL.out]
    have hS3 := hS2.call (SL.ofOwn ho2 hb2)
    simp only [List.cons_append, List.nil_append] at hS3
    rw [HSL.out] at hS3
    refine ⟨_, rfl, ⟨hS3.b, (hS3.blk 2 rfl).1⟩, ?_⟩
    go_frame
    obtain ⟨g1, eg1, -, hcP, hfP, hS4⟩ := hS3.setOwn cSl1 3 rfl (k : Int) (by omega) hkH ((x1, n, y1) : SlH)
    cases eg1
    obtain ⟨g2, eg2, -, hcQ, hfQ, hS5⟩ := hS4.setOwn cSl1 3 rfl K1 hK0 (by rw [List.length_set]; exact hKH) ((x2, n, y2) : SlH)
    cases eg2
    have eK : K1.toNat = k + 1 := by have := HK1.out; omega
    rw [show ((k : Int)).toNat = k by omega] at hcP hfP hS4 hcQ hfQ hS5
    rw [eK] at hcQ hfQ hS5
    have hcP2 : V2.cell? ⟨G, k, none⟩ = some (cSl (a1, n, c1)) := by rw [hcP]; exact HCA.out
    have hcQ2 : (V2.setCell ⟨G, k, none⟩ (cSl ((x1, n, y1) : SlH))).cell? ⟨G, k + 1, none⟩ = some (cSl (a2, n, c2)) := by rw [hcQ, List.getElem?_set_ne (by omega)]; exact HCB.out
    refine wpAnyC_on [18] kR (by simp) ?_
    simp only [List.forall_mem_cons, List.not_mem_nil, false_implies, implies_true, and_true]
    refine wpOp_value (v := .pointer (some ⟨G, k, none⟩)) (w' := V2) (by rw [List.getElem?_toArray]; rfl) wU (by first | (go_simp; done) | (go_simp; rfl) | (simp [execOp, Act.eval, Result.andThen]; done)) ?_
    refine ⟨⟨hS3.b, (hS3.blk 2 rfl).1⟩, ?_⟩
    go_frame
    refine wpAnyC_on [19] kR (by simp) ?_
    simp only [List.forall_mem_cons, List.not_mem_nil, false_implies, implies_true, and_true]
    refine wpOp_of_list (by rw [List.getElem?_toArray]; rfl) ?_
    refine wpList_stoAt (sto_smp ((x1, n, y1) : SlH) _ _) wU wU hcP2 hfP ?_
    refine ⟨⟨hS4.b, (hS4.blk 2 rfl).1⟩, ?_⟩
    go_frame
    refine wpAnyC_on [20] kR (by simp) ?_
    simp only [List.forall_mem_cons, List.not_mem_nil, false_implies, implies_true, and_true]
    refine wpOp_value (v := .pointer (some ⟨G, k + 1, none⟩)) (w' := (V2.setCell ⟨G, k, none⟩ (cSl ((x1, n, y1) : SlH)))) (by rw [List.getElem?_toArray]; rfl) wU (by first | (go_simp; done) | (go_simp; rfl) | (simp [execOp, Act.eval, Result.andThen]; done)) ?_
    refine ⟨⟨hS4.b, (hS4.blk 2 rfl).1⟩, ?_⟩
    go_frame
    refine wpAnyC_on [21] kR (by simp) ?_
    simp only [List.forall_mem_cons, List.not_mem_nil, false_implies, implies_true, and_true]
    refine wpOp_of_list (by rw [List.getElem?_toArray]; rfl) ?_
    refine wpList_stoAt (sto_smp ((x2, n, y2) : SlH) _ _) wU wU hcQ2 hfQ ?_
    refine ⟨⟨hS5.b, (hS5.blk 2 rfl).1⟩, ?_⟩
    go_frame
    refine wpAnyC_rest [] [] rfl rfl kR kR kR ⟨hS5.b, (hS5.blk 2 rfl).1⟩ ?_
    unfold wpPure
    refine of_wpList_nil (P := Tryz.prog) (ops := #[]) ?_
    have hfin := pull_pieces (x1 := ((x1, n, y1) : SlH)) (x2 := ((x2, n, y2) : SlH)) HHX.out HXK.out hS5
    rw [← HPX.out i] at hfin
    clear hS5 hS4 hS3 hcP hfP hcQ hfQ hcP2 hcQ2
    generalize ((V2.setCell ⟨G, k, none⟩ (cSl ((x1, n, y1) : SlH))).setCell ⟨G, k + 1, none⟩ (cSl ((x2, n, y2) : SlH))) = w9 at *
    go_wp2_with fail
    go_ret
    refine ⟨fun h => (by cases h), fun j h => ?_⟩
    cases h
    exact ⟨rfl, _, by rw [List.length_set, List.length_set]; exact HHL.out, hfin⟩
   ·as_aux_lemma =>
    refine wpOp_value (v := .slice a2 n c2) (w' := W) (by rw [List.getElem?_toArray]; rfl) wU (by first | (go_simp; done) | (go_simp; rfl) | (simp [execOp, Act.eval, Result.andThen]; done)) ?_
    refine ⟨⟨hSW.b, (hSW.blk 0 rfl).1⟩, ?_⟩
    go_frame
    refine wpAnyC_on [10] kR (by simp) ?_
    simp only [List.forall_mem_cons, List.not_mem_nil, false_implies, implies_true, and_true]
    refine wpOp_call (f := 173) (args := #[.slice a1 n c1, .int .i64 (i : Int)]) (by rw [List.getElem?_toArray]; rfl) wU (by first | (go_simp; done) | (simp [execOp, Act.eval, Result.andThen]; done) | (simp [execOp, Act.eval, Result.andThen]; rfl)) ?_
    refine (HBK.out a1 c1 _ hR1W).mono ?_
    rintro e V1 ⟨v1, rfl, ho1, hb1⟩
    obtain ⟨x1, y1, rfl, hr1, _, _⟩ := ho1.reps
    rw [HBL.out]
    have hS2 := hSW.call (SL.ofOwn ho1 hb1)
    simp only [List.cons_append, List.nil_append] at hS2
    rw [HBL.out] at hS2
    have hR2V := hR2W.below hb1
    have cBV : V1.cell? ⟨G, k + 1, none⟩ = some (.slice a2 n c2) := (hb1.cell (p := ⟨G, k + 1, none⟩) (World.block_lt_of_cell? _ _ cB)).trans cB
    refine ⟨_, rfl, ⟨hS2.b, (hS2.blk 1 rfl).1⟩, ?_⟩
    go_frame
    refine wpAnyC_on [17] kR (by simp) ?_
    simp only [List.forall_mem_cons, List.not_mem_nil, false_implies, implies_true, and_true]
    refine wpOp_call (f := 169) (args := #[.slice a2 n c2, .int .i64 (i : Int)]) (by rw [List.getElem?_toArray]; rfl) wU (by first | (go_simp; done) | (simp [execOp, Act.eval, Result.andThen]; done) | (simp [execOp, Act.eval, Result.andThen]; rfl)) ?_
    refine (HFR.out a2 c2 _ hR2V).mono ?_
    rintro e V2 ⟨v2, rfl, ho2, hb2⟩
    obtain ⟨x2, y2, rfl, hr2, _, _⟩ := ho2.reps
    rw [HSL.out]
    have hS3 := hS2.call (SL.ofOwn ho2 hb2)
    simp only [List.cons_append, List.nil_append] at hS3
    rw [HSL.out] at hS3
    refine ⟨_, rfl, ⟨hS3.b, (hS3.blk 2 rfl).1⟩, ?_⟩
    go_frame
    obtain ⟨g1, eg1, -, hcP, hfP, hS4⟩ := hS3.setOwn cSl1 3 rfl (k : Int) (by omega) hkH ((x1, n, y1) : SlH)
    cases eg1
    obtain ⟨g2, eg2, -, hcQ, hfQ, hS5⟩ := hS4.setOwn cSl1 3 rfl K1 hK0 (by rw [List.length_set]; exact hKH) ((x2, n, y2) : SlH)
    cases eg2
    have eK : K1.toNat = k + 1 := by have := HK1.out; omega
    rw [show ((k : Int)).toNat = k by omega] at hcP hfP hS4 hcQ hfQ hS5
    rw [eK] at hcQ hfQ hS5
    have hcP2 : V2.cell? ⟨G, k, none⟩ = some (cSl (a1, n, c1)) := by rw [hcP]; exact HCA.out
    have hcQ2 : (V2.setCell ⟨G, k, none⟩ (cSl ((x1, n, y1) : SlH))).cell? ⟨G, k + 1, none⟩ = some (cSl (a2, n, c2)) := by rw [hcQ, List.getElem?_set_ne (by omega)]; exact HCB.out
    refine wpAnyC_on [18] kR (by simp) ?_
    simp only [List.forall_mem_cons, List.not_mem_nil, false_implies, implies_true, and_true]
    refine wpOp_value (v := .pointer (some ⟨G, k, none⟩)) (w' := V2) (by rw [List.getElem?_toArray]; rfl) wU (by first | (go_simp; done) | (go_simp; rfl) | (simp [execOp, Act.eval, Result.andThen]; done)) ?_
    refine ⟨⟨hS3.b, (hS3.blk 2 rfl).1⟩, ?_⟩
    go_frame
    refine wpAnyC_on [19] kR (by simp) ?_
    simp only [List.forall_mem_cons, List.not_mem_nil, false_implies, implies_true, and_true]
    refine wpOp_of_list (by rw [List.getElem?_toArray]; rfl) ?_
    refine wpList_stoAt (sto_smp ((x1, n, y1) : SlH) _ _) wU wU hcP2 hfP ?_
    refine ⟨⟨hS4.b, (hS4.blk 2 rfl).1⟩, ?_⟩
    go_frame
    refine wpAnyC_on [20] kR (by simp) ?_
    simp only [List.forall_mem_cons, List.not_mem_nil, false_implies, implies_true, and_true]
    refine wpOp_value (v := .pointer (some ⟨G, k + 1, none⟩)) (w' := (V2.setCell ⟨G, k, none⟩ (cSl ((x1, n, y1) : SlH)))) (by rw [List.getElem?_toArray]; rfl) wU (by first | (go_simp; done) | (go_simp; rfl) | (simp [execOp, Act.eval, Result.andThen]; done)) ?_
    refine ⟨⟨hS4.b, (hS4.blk 2 rfl).1⟩, ?_⟩
    go_frame
    refine wpAnyC_on [21] kR (by simp) ?_
    simp only [List.forall_mem_cons, List.not_mem_nil, false_implies, implies_true, and_true]
    refine wpOp_of_list (by rw [List.getElem?_toArray]; rfl) ?_
    refine wpList_stoAt (sto_smp ((x2, n, y2) : SlH) _ _) wU wU hcQ2 hfQ ?_
    refine ⟨⟨hS5.b, (hS5.blk 2 rfl).1⟩, ?_⟩
    go_frame
    refine wpAnyC_rest [] [] rfl rfl kR kR kR ⟨hS5.b, (hS5.blk 2 rfl).1⟩ ?_
    unfold wpPure
    refine of_wpList_nil (P := Tryz.prog) (ops := #[]) ?_
    have hfin := pull_pieces (x1 := ((x1, n, y1) : SlH)) (x2 := ((x2, n, y2) : SlH)) HHX.out HXK.out hS5
    rw [← HPX.out i] at hfin
    clear hS5 hS4 hS3 hcP hfP hcQ hfQ hcP2 hcQ2
    generalize ((V2.setCell ⟨G, k, none⟩ (cSl ((x1, n, y1) : SlH))).setCell ⟨G, k + 1, none⟩ (cSl ((x2, n, y2) : SlH))) = w9 at *
    go_wp2_with fail
    go_ret
    refine ⟨fun h => (by cases h), fun j h => ?_⟩
    cases h
    exact ⟨rfl, _, by rw [List.length_set, List.length_set]; exact HHL.out, hfin⟩
  ·as_aux_lemma =>
   refine wpOp_value (v := .slice a2 n c2) (w' := W) (by rw [List.getElem?_toArray]; rfl) wU (by first | (go_simp; done) | (go_simp; rfl) | (simp [execOp, Act.eval, Result.andThen]; done)) ?_
   refine ⟨⟨hSW.b, (hSW.blk 0 rfl).1⟩, ?_⟩
   go_frame
   refine wpAnyC_on [8] kR (by simp) ?_
   simp only [List.forall_mem_cons, List.not_mem_nil, false_implies, implies_true, and_true]
   refine wpOp_value (v := .slice a1 n c1) (w' := W) (by rw [List.getElem?_toArray]; rfl) wU (by first | (go_simp; done) | (go_simp; rfl) | (simp [execOp, Act.eval, Result.andThen]; done)) ?_
   refine ⟨⟨hSW.b, (hSW.blk 0 rfl).1⟩, ?_⟩
   go_frame
   refine wpAnyC_on [10] kR (by simp) ?_
   simp only [List.forall_mem_cons, List.not_mem_nil, false_implies, implies_true, and_true]
   refine wpOp_call (f := 173) (args := #[.slice a1 n c1, .int .i64 (i : Int)]) (by rw [List.getElem?_toArray]; rfl) wU (by first | (go_simp; done) | (simp [execOp, Act.eval, Result.andThen]; done) | (simp [execOp, Act.eval, Result.andThen]; rfl)) ?_
   refine (HBK.out a1 c1 _ hR1W).mono ?_
   rintro e V1 ⟨v1, rfl, ho1, hb1⟩
   obtain ⟨x1, y1, rfl, hr1, _, _⟩ := ho1.reps
   rw [HBL.out]
   have hS2 := hSW.call (SL.ofOwn ho1 hb1)
   simp only [List.cons_append, List.nil_append] at hS2
   rw [HBL.out] at hS2
   have hR2V := hR2W.below hb1
   have cBV : V1.cell? ⟨G, k + 1, none⟩ = some (.slice a2 n c2) := (hb1.cell (p := ⟨G, k + 1, none⟩) (World.block_lt_of_cell? _ _ cB)).trans cB
   refine ⟨_, rfl, ⟨hS2.b, (hS2.blk 1 rfl).1⟩, ?_⟩
   go_frame
   refine wpAnyC_on [17] kR (by simp) ?_
   simp only [List.forall_mem_cons, List.not_mem_nil, false_implies, implies_true, and_true]
   refine wpOp_call (f := 169) (args := #[.slice a2 n c2, .int .i64 (i : Int)]) (by rw [List.getElem?_toArray]; rfl) wU (by first | (go_simp; done) | (simp [execOp, Act.eval, Result.andThen]; done) | (simp [execOp, Act.eval, Result.andThen]; rfl)) ?_
   refine (HFR.out a2 c2 _ hR2V).mono ?_
   rintro e V2 ⟨v2, rfl, ho2, hb2⟩
   obtain ⟨x2, y2, rfl, hr2, _, _⟩ := ho2.reps
   rw [HSL.out]
   have hS3 := hS2.call (SL.ofOwn ho2 hb2)
   simp only [List.cons_append, List.nil_append] at hS3
   rw [HSL.out] at hS3
   refine ⟨_, rfl, ⟨hS3.b, (hS3.blk 2 rfl).1⟩, ?_⟩
   go_frame
   obtain ⟨g1, eg1, -, hcP, hfP, hS4⟩ := hS3.setOwn cSl1 3 rfl (k : Int) (by omega) hkH ((x1, n, y1) : SlH)
   cases eg1
   obtain ⟨g2, eg2, -, hcQ, hfQ, hS5⟩ := hS4.setOwn cSl1 3 rfl K1 hK0 (by rw [List.length_set]; exact hKH) ((x2, n, y2) : SlH)
   cases eg2
   have eK : K1.toNat = k + 1 := by have := HK1.out; omega
   rw [show ((k : Int)).toNat = k by omega] at hcP hfP hS4 hcQ hfQ hS5
   rw [eK] at hcQ hfQ hS5
   have hcP2 : V2.cell? ⟨G, k, none⟩ = some (cSl (a1, n, c1)) := by rw [hcP]; exact HCA.out
   have hcQ2 : (V2.setCell ⟨G, k, none⟩ (cSl ((x1, n, y1) : SlH))).cell? ⟨G, k + 1, none⟩ = some (cSl (a2, n, c2)) := by rw [hcQ, List.getElem?_set_ne (by omega)]; exact HCB.out
   refine wpAnyC_on [18] kR (by simp) ?_
   simp only [List.forall_mem_cons, List.not_mem_nil, false_implies, implies_true, and_true]
   refine wpOp_value (v := .pointer (some ⟨G, k, none⟩)) (w' := V2) (by rw [List.getElem?_toArray]; rfl) wU (by first | (go_simp; done) | (go_simp; rfl) | (simp [execOp, Act.eval, Result.andThen]; done)) ?_
   refine ⟨⟨hS3.b, (hS3.blk 2 rfl).1⟩, ?_⟩
   go_frame
   refine wpAnyC_on [19] kR (by simp) ?_
   simp only [List.forall_mem_cons, List.not_mem_nil, false_implies, implies_true, and_true]
   refine wpOp_of_list (by rw [List.getElem?_toArray]; rfl) ?_
   refine wpList_stoAt (sto_smp ((x1, n, y1) : SlH) _ _) wU wU hcP2 hfP ?_
   refine ⟨⟨hS4.b, (hS4.blk 2 rfl).1⟩, ?_⟩
   go_frame
   refine wpAnyC_on [20] kR (by simp) ?_
   simp only [List.forall_mem_cons, List.not_mem_nil, false_implies, implies_true, and_true]
   refine wpOp_value (v := .pointer (some ⟨G, k + 1, none⟩)) (w' := (V2.setCell ⟨G, k, none⟩ (cSl ((x1, n, y1) : SlH)))) (by rw [List.getElem?_toArray]; rfl) wU (by first | (go_simp; done) | (go_simp; rfl) | (simp [execOp, Act.eval, Result.andThen]; done)) ?_
   refine ⟨⟨hS4.b, (hS4.blk 2 rfl).1⟩, ?_⟩
   go_frame
   refine wpAnyC_on [21] kR (by simp) ?_
   simp only [List.forall_mem_cons, List.not_mem_nil, false_implies, implies_true, and_true]
   refine wpOp_of_list (by rw [List.getElem?_toArray]; rfl) ?_
   refine wpList_stoAt (sto_smp ((x2, n, y2) : SlH) _ _) wU wU hcQ2 hfQ ?_
   refine ⟨⟨hS5.b, (hS5.blk 2 rfl).1⟩, ?_⟩
   go_frame
   refine wpAnyC_rest [] [] rfl rfl kR kR kR ⟨hS5.b, (hS5.blk 2 rfl).1⟩ ?_
   unfold wpPure
   refine of_wpList_nil (P := Tryz.prog) (ops := #[]) ?_
   have hfin := pull_pieces (x1 := ((x1, n, y1) : SlH)) (x2 := ((x2, n, y2) : SlH)) HHX.out HXK.out hS5
   rw [← HPX.out i] at hfin
   clear hS5 hS4 hS3 hcP hfP hcQ hfQ hcP2 hcQ2
   generalize ((V2.setCell ⟨G, k, none⟩ (cSl ((x1, n, y1) : SlH))).setCell ⟨G, k + 1, none⟩ (cSl ((x2, n, y2) : SlH))) = w9 at *
   go_wp2_with fail
   go_ret
   refine ⟨fun h => (by cases h), fun j h => ?_⟩
   cases h
   exact ⟨rfl, _, by rw [List.length_set, List.length_set]; exact HHL.out, hfin⟩
end Go.Proofs.YtngpopalpofhgaaGreatDoor

namespace Go.Proofs.YtngpopalpofhgaaGreatDoor
open Go.RowKit
set_option maxHeartbeats 8000000
set_option maxRecDepth 100000
/-- the pieces without the box. -/
def PR (G m cp : Nat) (H : List SlH) (X : List (List Int)) : List Pc := [pOwn cSl 1 211 (.slice (some ⟨G, 0, none⟩) m cp) H] ++ (mxQ H X).map inP
theorem mu_up {a b m k : Nat} (h : a ≤ b) (hk : k ≤ m) : a * (m + 2) + (m + 1 - (k + 1)) < b * (m + 2) + (m + 1 - k) := by
 have := Nat.mul_le_mul_right (m + 2) h
 omega
theorem mu_down {a b m k : Nat} (h : a + 1 ≤ b) (hk : k ≤ m) : a * (m + 2) + (m + 1 - (k - 1)) < b * (m + 2) + (m + 1 - k) := by
 have := Nat.mul_le_mul_right (m + 2) h
 rw [Nat.add_mul] at this
 omega
theorem push_any {B : Nat} {w0 w : World} {G m cp n : Nat} {H0 : List SlH} {X0 : List (List Int)} (hS : SL B w0 w (PR G m cp H0 X0)) (hH : H0.length = m) (hX : X0.length = m) (hv : Vs (garN n).toGar X0) (hn1 : 1 ≤ n) (hn : n ≤ 1000) (hm : m ≤ 1000) :
  Calls Tryz.prog 174 #[.slice (some ⟨G, 0, none⟩) m cp] w fun r w' => (∃ v, r = .returned v) ∧ ∃ H X, H.length = m ∧ PushS n X0 X 0 ∧ NoPull (garN n).toGar X ∧ SL B w0 w' (PR G m cp H X) := by
 have hP0 : PushS n X0 X0 0 := ⟨.refl _, hv, rfl, fun j hj => by omega⟩
 have hS1 : SL B w0 (w.alloc (.cells #[.slice (some ⟨G, 0, none⟩) m cp] 210)) (PL w.heap.size G m cp H0 X0) := SL.box hS _
 obtain ⟨Bx, hBx⟩ : ∃ b, b = w.heap.size := ⟨_, rfl⟩
 rw [← hBx] at hS1
 obtain ⟨wb, hwb⟩ : ∃ wb, wb = w.alloc (.cells #[.slice (some ⟨G, 0, none⟩) m cp] 210) := ⟨_, rfl⟩
 obtain ⟨mu, hmu⟩ : ∃ mu : List (List Int) → Nat, ∀ X, mu X = muG (garN n).toGar X := ⟨_, fun _ => rfl⟩
 have HX := hid hX; have HMU := hid hmu
 clear hmu hX hv
 go_enter Tryz.func174, Tryz.ntmps174
 go_wp2_with fail
 simp only [← hBx, ← hwb]
 rw [← hwb] at hS1
 clear hwb hBx hS
 go_step3
 go_wp2
 go_step3
 go_wp2
 go_loopg [3, 4] (mu X0 * (m + 2) + (m + 1 - 0)) (fun g kv _ wr => ∃ (k : Nat) (H : List SlH) (X : List (List Int)), kv = .int .i64 k ∧ k ≤ m ∧ H.length = m ∧ Aside (PushS n X0 X k) ∧ Aside (g = mu X * (m + 2) + (m + 1 - k)) ∧ SL B w0 wr (PL Bx G m cp H X))
 case atStart => exact ⟨0, H0, X0, rfl, by omega, hH, hP0, rfl, hS1⟩
 case round =>
  clear hS1 hP0 hH
  obtain ⟨k, H, X, rfl, hk, hH, HP, HG, hSr⟩ := hrel
  have cb := hSr.cell 0 rfl 0 rfl
  have hXl : X.length = m := by rw [HP.out.len]; exact HX.out
  have hw1 : IntKind.i64.wrap ((k : Int) + 1) = (k : Int) + 1 := IntWalk.i64_in _ (by omega)
  by_cases hlt : k + 1 < m
  ·have dlt : decide ((k : Int) + 1 < (m : Int)) = true := decide_eq_true (by omega)
   obtain ⟨Xk, hXk⟩ : ∃ Y, Y = X := ⟨_, rfl⟩
   have HGK : Hid (gk = mu Xk * (m + 2) + (m + 1 - k)) := hid (by rw [hXk]; exact HG.out)
   have hP1 : PushS n X0 X (k - 1) := ⟨HP.out.star, HP.out.vs, HP.out.len, HP.out.set.le (by omega)⟩
   have HXL := hid hXl
   clear HG hXl
   go_wp2_with fail
   clear cb dlt
   go_loopg [4] (mu X) (fun g mv wy => ∃ (H : List SlH) (X : List (List Int)) (mo : Bool), mv = .bool mo ∧ H.length = m ∧ Aside (PushS n X0 X (if mo then k - 1 else k)) ∧ Aside (g = mu X ∧ mu X + (if mo then 1 else 0) ≤ mu Xk) ∧ SL B w0 wy (PL Bx G m cp H X))
   case atStart => exact ⟨H, X, false, rfl, hH, HP, ⟨rfl, by rw [hXk]; exact Nat.le_refl _⟩, hSr⟩
   case round =>
    clear hSr hP1 HP hXk HXL hH H X
    obtain ⟨H, X, mo, rfl, hH, HP, HG, hSr⟩ := hrel
    have hXl : X.length = m := by rw [HP.out.len]; exact HX.out
    have HV := hid HP.out.vs
    have hkX : k + 1 < X.length := by omega
    have hP1 : PushS n X0 X (k - 1) := by
     refine ⟨HP.out.star, HP.out.vs, HP.out.len, HP.out.set.le ?_⟩
     cases mo <;> simp
    have HP1 := hid hP1
    have HXL := hid hXl
    have HC := hid (push1_any hSr hH hXl HP.out.vs hn1 hn hm k hlt)
    clear hXl hP1
    go_wp2_with fail
    refine HC.out.mono ?_
    rintro e wy ⟨hN, hM⟩
    clear HC hSr
    cases hf : folP n (nth X k) (nth X (k + 1)) with
    | some i =>
     obtain ⟨rfl, H', hH', hS'⟩ := hM i hf
     have HP2 := hid (HP1.out.pull (k := k) (i := i) (by omega) hkX hf)
     have HMI : Hid (mu (pullX X k i) < mu X) := hid (by rw [HMU.out, HMU.out]; exact pullX_mu HV.out hkX hf)
     have HML : Hid (mu (pullX X k i) + 1 ≤ mu Xk) := hid (by have h1 := HG.out.2; have h2 := HMI.out; omega)
     clear hN hM hf
     go_wp2_with fail
     go_roundg (mu (pullX X k i))
     case measure => have h1 := HG.out.1; have h2 := HMI.out; omega
     case rel => exact ⟨H', pullX X k i, true, rfl, hH', HP2.out, ⟨rfl, HML.out⟩, hS'⟩
    | none =>
     obtain ⟨rfl, hS'⟩ := hN hf
     have HST : Hid (PushS n X0 X k → PushS n X0 X (k + 1)) := hid fun h => ⟨h.star, h.vs, h.len, h.set.next hf⟩
     have HST1 : Hid (k = 0 → PushS n X0 X (k + 1)) := hid fun h => ⟨HP1.out.star, HP1.out.vs, HP1.out.len, Settled.next (k := k) (fun j hj => by omega) hf⟩
     clear hN hM hf
     cases mo with
     | false =>
      go_wp2_with fail
      go_roundg (mu X * (m + 2) + (m + 1 - (k + 1)))
      case measure => rw [HGK.out]; exact mu_up (by have := HG.out.2; simpa using this) (by omega)
      case rel => exact ⟨k + 1, H, X, by go_num, by omega, hH, HST.out HP.out, rfl, hS'⟩
     | true =>
      by_cases hk0 : 0 < k
      ·obtain ⟨K0, hK0⟩ : ∃ K : Int, K = (k : Int) - 1 := ⟨_, rfl⟩
       have hw0 : IntKind.i64.wrap ((k : Int) - 1) = K0 := by rw [hK0]; exact IntWalk.i64_in _ (by omega)
       have HK0 : Hid (K0 = ((k - 1 : Nat) : Int)) := hid (by omega)
       have dk : decide (0 < (k : Int)) = true := decide_eq_true (by omega)
       clear hK0
       go_wp2_with fail
       go_roundg (mu X * (m + 2) + (m + 1 - (k - 1)))
       case measure => rw [HGK.out]; exact mu_down (by have := HG.out.2; simpa using this) (by omega)
       case rel => exact ⟨k - 1, H, X, by rw [HK0.out], by omega, hH, HP1.out, rfl, hS'⟩
      ·have dk : decide (0 < (k : Int)) = false := decide_eq_false (by omega)
       go_wp2_with fail
       go_roundg (mu X * (m + 2) + (m + 1 - (k + 1)))
       case measure => rw [HGK.out]; exact mu_up (by have := HG.out.2; simp at this; omega) (by omega)
       case rel => exact ⟨k + 1, H, X, by go_num, by omega, hH, HST1.out (by omega), rfl, hS'⟩
  ·have dlt : decide ((k : Int) + 1 < (m : Int)) = false := decide_eq_false (by omega)
   have HNP := hid (HP.out.set.all (by omega))
   clear HG hXl hlt
   go_wp2_with fail
   rw [Exit.noGoto_normal]
   go_end0
   exact ⟨⟨_, rfl⟩, H, X, hH, ⟨HP.out.star, HP.out.vs, HP.out.len, fun j hj => by omega⟩, HNP.out, SL.tail hSr⟩
end Go.Proofs.YtngpopalpofhgaaGreatDoor

namespace Go.Proofs.YtngpopalpofhgaaGreatDoor
open Go.RowKit
set_option maxHeartbeats 8000000
set_option maxRecDepth 100000
/-- the handles lead to rows of n places. -/
def RowsR (w : World) (n : Nat) (H : List SlH) (X : List (List Int)) : Prop := H.length = X.length ∧ ∀ k : Nat, k < X.length → ∃ a c, atD ((none, 0, 0) : SlH) H (k : Int) = (a, n, c) ∧ Ints w a c (nth X k)
theorem RowsR.below {w w' : World} {n : Nat} {H : List SlH} {X : List (List Int)} (h : RowsR w n H X) (hb : Below w.heap.size w w') : RowsR w' n H X := ⟨h.1, fun k hk => by obtain ⟨a, c, e, r⟩ := h.2 k hk; exact ⟨a, c, e, r.below hb⟩⟩
theorem SL.rowsR {B : Nat} {w0 w : World} {pre : List Pc} {H : List SlH} {X : List (List Int)} {n : Nat} (h : SL B w0 w (pre ++ (mxQ H X).map inP)) (hH : H.length = X.length) (hX : ∀ r ∈ X, r.length = n) : RowsR w n H X := ⟨hH, fun k hk => fx_row h hH hX hk⟩
theorem mxQ_snoc {H : List SlH} {X : List (List Int)} (h : H.length = X.length) (x : SlH) (r : List Int) : mxQ (H ++ [x]) (X ++ [r]) = mxQ H X ++ [(x, r)] := by
 unfold mxQ
 rw [List.zip_append h]
 rfl
theorem nth_take {X : List (List Int)} {k : Nat} (h : k < X.length) : X.take (k + 1) = X.take k ++ [nth X k] := by
 rw [List.take_succ_eq_append_getElem h]; simp [nth, atD, h]
theorem mappedF_any (aa : Option Addr) (ca n m : Nat) (H : List SlH) (X : List (List Int)) (w : World) (hR : Reps cSl 1 w aa ca H) (hrows : RowsR w n H X) (hX : X.length = m) (hv : ∀ x ∈ X, VP n x) (hn : n ≤ 1000) (hm : m ≤ 1000) :
  Calls Tryz.prog 170 #[.slice aa m ca, .func (.func 171) #[] #[]] w fun r w' => ∃ v Ho, r = .returned v ∧ Ho.length = m ∧ SL w.heap.size w w' ([pOwn cSl 1 211 v Ho] ++ (mxQ Ho (X.map flP)).map inP) := by
 have hcap := hR.le
 have hmx := hR.max
 have hHl : H.length = m := by rw [hrows.1, hX]
 rw [hHl] at hcap
 have HC := hid (fun (k : Nat) (hk : k < m) (a : Option Addr) (c : Nat) w (h : Ints w a c (nth X k)) => (show Calls Tryz.prog 171 #[.slice a n c] w fun r w' => ∃ v, r = .returned v ∧ OwnI w.heap.size w' v (flP (nth X k)) ∧ Below w.heap.size w w' from by
  have v := vs_nth (n := n) (X := X) hv (k := k) (by omega)
  have := flipped_any a c (nth X k) w h v.1 (by rw [v.2]; exact hn)
  rw [v.2] at this
  exact this))
 have HFL := hid (fun (k : Nat) (hk : k < m) => (show (flP (nth X k)).length = n from (VP.fl (vs_nth (n := n) (X := X) hv (k := k) (by omega))).2))
 have HTK : Hid (∀ k, k < m → (X.take (k + 1)).map flP = (X.take k).map flP ++ [flP (nth X k)]) := hid fun k hk => by rw [nth_take (by omega), List.map_append]; rfl
 have HLN : Hid (∀ k, k ≤ m → ((X.take k).map flP).length = k) := hid fun k hk => by rw [List.length_map, List.length_take]; omega
 have HRW := hid hrows; have HHL := hid hHl; have HXL := hid hX
 have hS0 : SL w.heap.size w w ([pOwn cSl 1 211 (.slice none 0 0) ([] : List SlH)] ++ (mxQ [] ((X.take 0).map flP)).map inP) := (SL.nil w).nilS (α := SlH) (e := 211) cSlS
 clear hrows hHl hX hv
 go_enter Tryz.func170, Tryz.ntmps170
 go_wp2_with fail
 go_loopw [10, 5, 7] (fun iv ov _ wr => ∃ (k : Nat) (Ho : List SlH), k ≤ m ∧ iv = .int .i64 k ∧ Ho.length = k ∧ SL w.heap.size w wr ([pOwn cSl 1 211 ov Ho] ++ (mxQ Ho ((X.take k).map flP)).map inP)) (fun iv _ _ _ => m - (intOf iv).toNat)
 case atStart => exact ⟨0, [], by omega, rfl, rfl, hS0⟩
 case round =>
  clear hS0
  obtain ⟨k, Ho, hk, rfl, hHo, hSr⟩ := hrel
  by_cases hlt : k < m
  ·obtain ⟨a1, c1, e1, h1⟩ := HRW.out.2 k (by rw [HXL.out]; exact hlt)
   have hRr := hR.below hSr.b
   have HE1 := hid e1
   have HCK := hid (HC.out k hlt a1 c1)
   have hfl := HFL.out k hlt
   have htk := HTK.out k hlt
   have hln := HLN.out k hk
   have hHo20 : Ho.length ≤ 1000 := by omega
   obtain ⟨F, hF⟩ : ∃ F, F = flP (nth X k) := ⟨_, rfl⟩
   rw [← hF] at HCK hfl htk
   obtain ⟨T, hT⟩ : ∃ T, T = (X.take k).map flP := ⟨_, rfl⟩
   rw [← hT] at hSr htk hln
   have HTK2 := hid htk; have HHT : Hid (Ho.length = T.length) := hid (by rw [hln]; exact hHo)
   have HHO := hid hHo; have HFN := hid hfl
   have h1r := h1.below hSr.b
   have hkH : (k : Int) < (H.length : Int) := by rw [HHL.out]; omega
   clear e1 htk hln hHo hfl hF hT h1
   go_wp2_with ((with_reducible refine wpList_idxN _ ((none, 0, 0) : SlH) E_smps F_smp cSl1 wU wU (hRr) (HHL.out) oD oD (fun _ => wU) (fun _ => ?_)); rw [HE1.out])
   refine (HCK.out _ h1r).mono ?_
   rintro e w2 ⟨v2, rfl, ho, b2⟩
   have hS2 := hSr.call (SL.ofOwn ho b2)
   obtain ⟨a2, c2, hv2, -⟩ := hS2.slice (c := cInt) 0 rfl
   rw [HFN.out] at hv2
   subst hv2
   simp only [List.cons_append, List.nil_append] at hS2
   clear ho b2 hSr hRr h1r
   go_wp2_with ((with_reducible refine wpList_pushL (y := ((a2, n, c2) : SlH)) 1 E_smps wU wU (hS2) wU cSlO ⟨rfl, rfl⟩ (by first | with_unfolding_all rfl | simp) wU (by first | omega | (simp; omega)) (by first | omega | (simp; omega)) ?_); intro v3 w3 hS3)
   have hS4 := hS3.comm (K := [pOwn cInt 1 3 (.slice a2 n c2) F])
   exact ⟨⟨k + 1, Ho ++ [(a2, n, c2)], by omega, by go_num, by rw [List.length_append, HHO.out]; rfl, by
    rw [HTK2.out, mxQ_snoc HHT.out, List.map_append]
    exact hS4⟩, by simp [intOf]; omega⟩
  ·have hkk : k = m := by omega
   have hfull : X.take k = X := by rw [hkk, ← HXL.out, List.take_length]
   rw [hfull] at hSr
   have HHO : Hid (Ho.length = m) := hid (by omega)
   have hkn : ¬ ((k : Int) < (m : Int)) := by omega
   clear hkk hfull hlt hk hHo
   go_wp2_with fail
   go_ret
   exact ⟨_, rfl, Ho, HHO.out, hSr⟩
theorem push_nil (w : World) : Calls Tryz.prog 174 #[.slice none 0 0] w fun r w' => (∃ v, r = .returned v) ∧ Below w.heap.size w w' := by
 have hS := (SL.nil w).box (.cells #[.slice none 0 0] 210)
 have cb := hS.cell 0 rfl 0 rfl
 have hb := bal (Below.refl w.heap.size w) (.cells #[.slice none 0 0] 210)
 obtain ⟨wb, hwb⟩ : ∃ wb, wb = w.alloc (.cells #[.slice none 0 0] 210) := ⟨_, rfl⟩
 rw [← hwb] at cb hb
 clear hS
 go_enter Tryz.func174, Tryz.ntmps174
 go_wp2_with fail
 simp only [← hwb]
 clear hwb
 go_step3
 go_wp2
 go_step3
 go_wp2
 go_loopg [3, 4] 0 (fun g kv _ wr => kv = .int .i64 0 ∧ wr = wb)
 case atStart => exact ⟨rfl, rfl⟩
 case round =>
  obtain ⟨rfl, rfl⟩ := hrel
  go_wp2_with fail
  rw [Exit.noGoto_normal]
  go_end0
  exact ⟨⟨_, rfl⟩, hb⟩
end Go.Proofs.YtngpopalpofhgaaGreatDoor

namespace Go.Proofs.YtngpopalpofhgaaGreatDoor
open Go.RowKit
set_option maxHeartbeats 2000000
set_option maxRecDepth 100000

theorem trimS_all {l cs : List UInt8} (h : ∀ x ∈ l, cs.contains x = true) : Lib.trimS l cs = [] := by
 have e : Lib.trimRightS l cs = [] := by
  have := Lib.trimRightS_take l cs 0 (Nat.zero_le _) (fun j b _ hb => h b (List.mem_of_getElem? hb)) (fun b hb _ => by omega)
  simpa using this
 unfold Lib.trimS
 rw [e]
 rfl
theorem trimOU_all {s : ByteArray} (h : ∀ k, k < s.size → byteAt s k = 111 ∨ byteAt s k = 117) : trimOU s = ⟨#[]⟩ := by
 unfold trimOU
 rw [trimS_all]
 intro x hx
 obtain ⟨i, hi, rfl⟩ := List.getElem_of_mem hx
 have hi2 : i < s.size := by simpa using hi
 have := h i hi2
 rw [byteAt_in hi2, ByteArray.getElem_eq_getElem_data] at this
 simp
 rcases this with h | h
 ·left; exact UInt8.toNat_inj.1 (show _ = 111 by omega)
 ·right; exact UInt8.toNat_inj.1 (show _ = 117 by omega)

def shortPB (l : List PassV) : Bool := shortM l.length && l.all (fun p => decide (p.way.size ≤ 20))
theorem rShortPasses_any (a : Option Addr) (cap : Nat) (l : List PassV) (w : World) (hS : PassesR w a cap l) :
  Calls Tryz.prog 16 #[.slice a l.length cap] w fun r w' => r = .returned (.bool (shortPB l)) ∧ Below w.heap.size w w' := by
 have hcap := hS.le
 have hm := hS.max
 cases hM : shortM l.length
 ·have e : shortPB l = false := by unfold shortPB; rw [hM]; rfl
  rw [e]
  have h1 : 40 < l.length ∧ (l.length ≤ 1000 ∨ 1002 < l.length) := by
   simp only [shortM, Bool.or_eq_false_iff, Bool.and_eq_false_iff, decide_eq_false_iff_not] at hM; omega
  clear hM e
  obtain ⟨h1, h2⟩ := h1
  by_cases h3 : l.length ≤ 1000
  ·go_enter Tryz.func16, Tryz.ntmps16
   go_wp2
   go_ret
   exact ⟨rfl, Below.refl _ _⟩
  ·have h4 : 1002 < l.length := by omega
   go_enter Tryz.func16, Tryz.ntmps16
   go_wp2
   go_ret
   exact ⟨rfl, Below.refl _ _⟩
 ·have h1 : l.length ≤ 40 ∨ (1000 < l.length ∧ l.length ≤ 1002) := by
   simp only [shortM, Bool.or_eq_true, Bool.and_eq_true, decide_eq_true_eq] at hM; omega
  have eB : shortPB l = l.all (fun p => decide (p.way.size ≤ 20)) := by unfold shortPB; rw [hM]; rfl
  obtain ⟨B, hB⟩ : ∃ B, B = shortPB l := ⟨_, rfl⟩
  rw [← hB] at eB ⊢
  have HB := hid eB
  clear eB hB hM
  rcases h1 with h1 | ⟨h1, h2⟩
  all_goals
   go_enter Tryz.func16, Tryz.ntmps16
   go_wp2
   go_loopw [3] (fun i wr => ∃ k : Nat, k ≤ l.length ∧ i = .int .i64 k ∧ (l.take k).all (fun p => decide (p.way.size ≤ 20)) = true ∧ Below w.heap.size w wr) (fun i _ => l.length - (intOf i).toNat)
   case atStart => exact ⟨0, by omega, rfl, rfl, Below.refl _ _⟩
   case round =>
    obtain ⟨k, hk, rfl, hno, hbr⟩ := hrel
    have hR := hS.below hbr
    by_cases hlt : k < l.length
    ·have ht := take_step pass0 l k hlt
     have HT := hid ht; have HNO := hid hno; clear ht hno
     obtain ⟨b', o', rfl, hcs⟩ := hR.cells (by decide) pass0 k hlt
     have k2 := hcs 2 (.string (atD pass0 l k).way) rfl
     clear hcs
     by_cases hw : (atD pass0 l k).way.size ≤ 20
     ·have hno2 : (l.take (k + 1)).all (fun p => decide (p.way.size ≤ 20)) = true := by rw [HT.out, List.all_append, HNO.out]; simp [hw]
      have HN2 := hid hno2; clear hno2
      go_wp2_with fail
      go_roundw
      case rel => exact ⟨k + 1, by omega, by go_num, HN2.out, hbr⟩
      case measure => simp [intOf]; omega
     ·have hf : B = false := by
       rw [HB.out, List.all_eq_false]
       exact ⟨atD pass0 l k, by simp [atD, hlt], by simpa using hw⟩
      have HF := hid hf; clear hf
      go_wp2_with fail
      go_ret
      exact ⟨by rw [HF.out]; rfl, hbr⟩
    ·have : k = l.length := by omega
     subst this
     rw [List.take_length] at hno
     have hf : B = true := by rw [HB.out, hno]
     have HF := hid hf; clear hf hno
     go_wp2_with fail
     go_ret
     exact ⟨by rw [HF.out]; rfl, hbr⟩
end Go.Proofs.YtngpopalpofhgaaGreatDoor

namespace Go.Proofs.YtngpopalpofhgaaGreatDoor
open Go.RowKit
set_option maxHeartbeats 2000000
set_option maxRecDepth 100000

theorem rCheckPasses_any (n : Int) (a : Option Addr) (cap : Nat) (l : List PassV) (w : World) (hS : PassesR w a cap l) (hl : l.length ≤ 1048576) (hw : ∀ p ∈ l, p.way.size ≤ 1048576) :
  Calls Tryz.prog 17 #[.int .i64 n, .slice a l.length cap] w fun r w' => r = .returned (.int .i64 (passesE n l)) ∧ Below w.heap.size w w' := by
 have hcap := hS.le
 have hm := hS.max
 cases hb0 : btw n 2 12
 ·have e : passesE n l = 3 := by unfold passesE; rw [if_pos (by simp [btw] at hb0; omega)]
  rw [e]
  have H0 := hid hb0; clear hb0 e hw
  go_enter Tryz.func17, Tryz.ntmps17
  go_wp2_with fail
  refine (rbetween_any _ _ _ _).mono ?_; rw [H0.out]; rintro e w' ⟨rfl, rfl⟩
  go_wp2_with fail
  go_ret
  exact ⟨rfl, Below.refl _ _⟩
 ·have hn : 2 ≤ n ∧ n ≤ 12 := btw_true.1 hb0
  obtain ⟨hn1, hn2⟩ := hn
  have H0 := hid hb0; clear hb0
  by_cases hl2 : 1000 < l.length
  ·have e : passesE n l = 5 := by unfold passesE; rw [if_neg (by omega), if_pos hl2]
   rw [e]
   clear e hw
   go_enter Tryz.func17, Tryz.ntmps17
   go_wp2_with fail
   refine (rbetween_any _ _ _ _).mono ?_; rw [H0.out]; rintro e w' ⟨rfl, rfl⟩
   go_wp2_with fail
   go_ret
   exact ⟨rfl, Below.refl _ _⟩
  ·have e : passesE n l = passesGo n l := by unfold passesE; rw [if_neg (by omega), if_neg hl2]
   obtain ⟨E, hE⟩ : ∃ E, E = passesE n l := ⟨_, rfl⟩
   rw [← hE] at e ⊢
   have HE := hid e; have HW := hid hw; clear e hE hw
   go_enter Tryz.func17, Tryz.ntmps17
   go_wp2_with fail
   refine (rbetween_any _ _ _ _).mono ?_; rw [H0.out]; rintro e w' ⟨rfl, rfl⟩
   go_wp2_with fail
   go_loopw [5, 6, 7] (fun i _ _ wr => ∃ k : Nat, k ≤ l.length ∧ i = .int .i64 k ∧ passesGo n (l.drop k) = E ∧ Below w.heap.size w wr) (fun i _ _ _ => l.length - (intOf i).toNat)
   case atStart => exact ⟨0, by omega, rfl, by rw [HE.out]; rfl, Below.refl _ _⟩
   case round =>
    obtain ⟨k, hk, rfl, hgo, hbr⟩ := hrel
    have hSr := hS.below hbr
    by_cases hlt : k < l.length
    ·have hstep := passesGo_step n l k hlt
     rw [hgo] at hstep
     have hsz : (atD pass0 l k).way.size ≤ 1048576 := HW.out _ (by simp [atD, hlt])
     obtain ⟨f, hf⟩ : ∃ f, f = (atD pass0 l k).f := ⟨_, rfl⟩
     obtain ⟨t, ht⟩ : ∃ t, t = (atD pass0 l k).t := ⟨_, rfl⟩
     obtain ⟨s, hs⟩ : ∃ s, s = (atD pass0 l k).way := ⟨_, rfl⟩
     have hp : atD pass0 l k = ⟨f, t, s⟩ := by rw [hf, ht, hs]
     rw [hp] at hstep
     rw [← hs] at hsz
     have HST := hid hstep; have HF := hid hf; have HT := hid ht; have HY := hid hs; have HGO := hid hgo
     clear hstep hf ht hs hp hgo
     have b1 : Below w.heap.size w (wr.alloc (.cells #[.int .i64 f, .int .i64 t, .string s] 53)) := bal hbr _
     go_wp2_with (with_reducible refine wpList_idxS _ pass0 E_rpasses F_rpass cPass1 wU wU (hSr) oD oD (fun _ => wU) (fun _ => ?_))
     rw [← HF.out, ← HT.out, ← HY.out]
     cases h1 : btw f 1 n
     ·have e : E = 3 := by
       have e1 : passE n ⟨f, t, s⟩ = 3 := by unfold passE; rw [if_pos (by simp [btw] at h1 ⊢; omega)]
       rw [HST.out, e1]; rfl
      have HE1 := hid e; have H1 := hid h1; clear e h1
      refine (rbetween_any _ _ _ _).mono ?_; rw [H1.out]; rintro e w' ⟨rfl, rfl⟩
      go_wp2_with fail
      go_ret
      exact ⟨by rw [HE1.out]; rfl, b1⟩
     ·cases h2 : btw t 1 n
      ·have e : E = 3 := by
        have e1 : passE n ⟨f, t, s⟩ = 3 := by unfold passE; rw [if_pos (by simp [btw] at h2 ⊢; omega)]
        rw [HST.out, e1]; rfl
       have HE1 := hid e; have H1 := hid h1; have H2 := hid h2; clear e h1 h2
       refine (rbetween_any _ _ _ _).mono ?_; rw [H1.out]; rintro e w' ⟨rfl, rfl⟩
       go_wp2_with fail
       refine (rbetween_any _ _ _ _).mono ?_; rw [H2.out]; rintro e w' ⟨rfl, rfl⟩
       go_wp2_with fail
       go_ret
       exact ⟨by rw [HE1.out]; rfl, b1⟩
      ·have g1 := btw_true.1 h1
       have g2 := btw_true.1 h2
       obtain ⟨f1, f2⟩ := g1
       obtain ⟨t1, t2⟩ := g2
       have H1 := hid h1; have H2 := hid h2; clear h1 h2
       by_cases h3 : t = f
       ·have e : E = 9 := by
         have e1 : passE n ⟨f, t, s⟩ = 9 := by unfold passE; rw [if_neg (by simp; omega), if_pos h3]
         rw [HST.out, e1]; rfl
        have HE1 := hid e; clear e
        have h3' : (f == t) = true := by simpa using h3.symm
        clear h3
        refine (rbetween_any _ _ _ _).mono ?_; rw [H1.out]; rintro e w' ⟨rfl, rfl⟩
        go_wp2_with fail
        refine (rbetween_any _ _ _ _).mono ?_; rw [H2.out]; rintro e w' ⟨rfl, rfl⟩
        go_wp2_with fail
        go_ret
        exact ⟨by rw [HE1.out]; rfl, b1⟩
       ·have hd : distP ⟨f, t, s⟩ = max (f - t) (t - f) := by unfold distP; simp only; split <;> omega
        have h3' : (f == t) = false := by simp; omega
        by_cases h4 : (s.size : Int) = max (f - t) (t - f)
        ·have h4' : ((s.size : Int) != max (f - t) (t - f)) = false := by simpa using h4
         have hdz : (s.size : Int) = distP ⟨f, t, s⟩ := by rw [hd]; exact h4
         have HDZ := hid hdz; have H3 := hid h3; clear h4 hd hdz h3
         refine (rbetween_any _ _ _ _).mono ?_; rw [H1.out]; rintro e w' ⟨rfl, rfl⟩
         go_wp2_with fail
         refine (rbetween_any _ _ _ _).mono ?_; rw [H2.out]; rintro e w' ⟨rfl, rfl⟩
         go_wp2_with fail
         have c2 : (wr.alloc (.cells #[.int .i64 f, .int .i64 t, .string s] 53)).cell? ⟨wr.heap.size, 2, none⟩ = some (.string s) := by simp [go_sem]
         obtain ⟨W, hW⟩ : ∃ W, W = wr.alloc (.cells #[.int .i64 f, .int .i64 t, .string s] 53) := ⟨_, rfl⟩
         rw [← hW] at c2 b1 ⊢
         have hWl : wr.heap.size < W.heap.size := by rw [hW]; simp
         clear hW
         obtain ⟨H, hH⟩ : ∃ H, H = wr.heap.size := ⟨_, rfl⟩
         rw [← hH] at c2 hWl ⊢
         clear hH
         go_loopw [7] (fun j wq => ∃ m : Nat, m ≤ s.size ∧ j = .int .i64 m ∧ (∀ q, q < m → byteAt s q = 111 ∨ byteAt s q = 117) ∧ Below W.heap.size W wq) (fun j _ => s.size - (intOf j).toNat)
         case atStart => exact ⟨0, by omega, rfl, fun q hq => by omega, Below.refl _ _⟩
         case round =>
          obtain ⟨m, hm2, rfl, hall, hbq⟩ := hrel
          have k2 : wr.cell? ⟨H, 2, none⟩ = some (.string s) := (hbq.cell (p := ⟨H, 2, none⟩) hWl).trans c2
          have HA := hid hall; clear hall
          by_cases hml : m < s.size
          ·have hb := byteAt_in hml
           have next : (byteAt s m = 111 ∨ byteAt s m = 117) → ∀ q, q < m + 1 → byteAt s q = 111 ∨ byteAt s q = 117 := fun h q hq => by
            by_cases e : q = m
            ·subst e; exact h
            ·exact HA.out q (by omega)
           by_cases c1 : ((s[m]'hml).toNat : Int) = 111
           ·have hn := next (.inl (hb.trans c1))
            have HN := hid hn; clear hn next hb
            go_wp2_with fail
            all_goals exact ⟨⟨m + 1, by omega, by go_num, HN.out, hbq⟩, by simp [intOf]; omega⟩
           ·by_cases c3 : ((s[m]'hml).toNat : Int) = 117
            ·have hn := next (.inr (hb.trans c3))
             have HN := hid hn; clear hn next hb
             go_wp2_with fail
             all_goals exact ⟨⟨m + 1, by omega, by go_num, HN.out, hbq⟩, by simp [intOf]; omega⟩
            ·have e1 : passE n ⟨f, t, s⟩ = 1 := by
              unfold passE
              rw [if_neg (by simp; omega), if_neg H3.out, if_neg (fun h => h HDZ.out), if_pos]
              intro h
              have := trimOU_nil h m hml
              rw [hb] at this
              omega
             have e : E = 1 := by rw [HST.out, e1]; rfl
             have HE1 := hid e; clear e e1 hb next
             have d1 : (((s[m]'hml).toNat : Int) != 111) = true := by simpa using c1
             have d2 : (((s[m]'hml).toNat : Int) != 117) = true := by simpa using c3
             go_wp2_with fail
             go_ret
             exact ⟨by rw [HE1.out]; rfl, bnext b1 hbq⟩
          ·have : m = s.size := by omega
           subst this
           have e0 : passE n ⟨f, t, s⟩ = 0 := by
            unfold passE
            rw [if_neg (by simp; omega), if_neg H3.out, if_neg (fun h => h HDZ.out), if_neg (fun h => h (trimOU_all HA.out))]
           have hst := HST.out
           rw [e0, if_neg (fun h => h rfl)] at hst
           have HS2 := hid hst; clear hst e0
           go_wp2_with fail
           go_roundw
           case rel => exact ⟨k + 1, by omega, by go_num, HS2.out.symm, bnext b1 hbq⟩
           case measure => simp [intOf]; omega
        ·have e : E = 2 := by
          have e1 : passE n ⟨f, t, s⟩ = 2 := by unfold passE; rw [if_neg (by simp; omega), if_neg h3, if_pos (by rw [hd]; exact h4)]
          rw [HST.out, e1]; rfl
         have HE1 := hid e; clear e hd h3
         have h4' : ((s.size : Int) != max (f - t) (t - f)) = true := by simpa using h4
         refine (rbetween_any _ _ _ _).mono ?_; rw [H1.out]; rintro e w' ⟨rfl, rfl⟩
         go_wp2_with fail
         refine (rbetween_any _ _ _ _).mono ?_; rw [H2.out]; rintro e w' ⟨rfl, rfl⟩
         go_wp2_with fail
         go_ret
         exact ⟨by rw [HE1.out]; rfl, b1⟩
    ·have : k = l.length := by omega
     subst this
     have e : E = 0 := by rw [← hgo]; simp [passesGo]
     have HE1 := hid e; clear e hgo
     go_wp2_with fail
     go_ret
     exact ⟨by rw [HE1.out]; rfl, hbr⟩
end Go.Proofs.YtngpopalpofhgaaGreatDoor

namespace Go.Proofs.YtngpopalpofhgaaGreatDoor
open Go.RowKit
set_option maxHeartbeats 2000000
set_option maxRecDepth 100000

end Go.Proofs.YtngpopalpofhgaaGreatDoor

namespace Go.Proofs.YtngpopalpofhgaaGreatDoor
open Go.RowKit
set_option maxHeartbeats 2000000
set_option maxRecDepth 100000

def cB (b : UInt8) : Value := .int .u8 b.toNat
attribute [go_sem] cB
theorem cB1 (x : UInt8) : (cB x).cells = #[cB x] := rfl
theorem cBS (x : UInt8) : (cB x).cells.size = 1 := rfl
theorem cBO (x : UInt8) : ∀ u ∈ (cB x).cells.toList, u.oneCell' = true := by intro u hu; simp [cB, Value.cells] at hu; subst hu; rfl
theorem E_bytes : ETy Tryz.prog 91 5 (.int .u8 0) 1 1 := ⟨Tryz.underlying91, by kernel_rfl, rfl, by decide⟩
theorem F_u8 : Flat Tryz.prog 5 := ⟨_, Tryz.underlying5, rfl⟩

theorem byteC_any (x : Int) (w : World) :
  Calls Tryz.prog 57 #[.int .u8 x] w fun r w' => r = .returned (.int .u8 x) ∧ w = w' := by
 go_enter Tryz.func57, Tryz.ntmps57
 go_wp2
 go_ret
 exact ⟨rfl, rfl⟩
theorem revB_at {l : List UInt8} {k : Nat} (h : k < l.length) {j : Int} (hj : j = (l.length : Int) - 1 - k) : atD 0 l.reverse k = atD 0 l j := by
 have h1 : j.toNat = l.length - 1 - k := by omega
 have h2 : l.length - 1 - k < l.length := by omega
 unfold atD
 rw [h1, List.getD_eq_getElem?_getD, Int.toNat_natCast, List.getElem?_reverse h, List.getD_eq_getElem?_getD]
theorem revBytes_any (a : Option Addr) (cap : Nat) (l : List UInt8) (w : World) (hS : Reps cB 1 w a cap l) (hl : l.length ≤ 1048576) :
  Calls Tryz.prog 56 #[.slice a l.length cap, .func (.func 57) #[] #[]] w fun r w' => ∃ v, r = .returned v ∧ Own cB 1 w.heap.size 5 w' v l.reverse ∧ Below w.heap.size w w' := by
 have hcap := hS.le
 have hm := hS.max
 go_enter Tryz.func56, Tryz.ntmps56
 go_wp2_with fail
 go_loopw [5, 6, 9] (fun v _ i wr => ∃ k : Nat, k ≤ l.length ∧ i = .int .i64 k ∧ Own cB 1 w.heap.size 5 wr v (l.reverse.take k) ∧ Below w.heap.size w wr) (fun _ _ i _ => l.length - (intOf i).toNat)
 case atStart => exact ⟨0, by omega, rfl, own_nil cBS, Below.refl _ _⟩
 case round =>
  obtain ⟨k, hk, rfl, hO, hbr⟩ := hrel
  have hSr := hS.below hbr
  have hbs := hbr.size
  have hle : (l.reverse.take k).length ≤ 1048576 := by simp; omega
  by_cases hlt : k < l.length
  ·have hs := take_step (0 : UInt8) l.reverse k (by simpa using hlt)
   rw [revB_at hlt rfl] at hs
   obtain ⟨o, ho⟩ : ∃ o, o = l.reverse.take k := ⟨_, rfl⟩
   rw [← ho] at hs hO hle
   have HS := hid hs; clear hs ho
   obtain ⟨x, hx⟩ : ∃ x, x = atD 0 l ((l.length : Int) - 1 - k) := ⟨_, rfl⟩
   have HX := hid hx; clear hx
   go_wp2_with (first | (with_reducible refine wpList_idx _ 0 E_bytes F_u8 cB1 wU wU (hSr) oD oD (fun _ => wU) (fun _ => ?_)))
   rw [← HX.out]
   refine (byteC_any x.toNat wr).mono ?_
   rintro e w2 ⟨rfl, rfl⟩
   go_wp2_with (first | ((with_reducible refine wpList_app (l := o) (ys := [x]) E_bytes wU wU ((hO).alloc _) (reps_new1 cBS (x) _ _ (by simp) rfl) cBO (by simp; omega) (by first | omega | (simp; omega)) (by simp; omega) ?_); intro v3 w3 ho3 hg3 hat3))
   exact ⟨⟨k + 1, by omega, by go_num, by rw [HS.out, ← HX.out]; exact ho3, below_own (bal hbr (.cells #[.int .u8 x.toNat] 5)) hg3 (hO.alloc _) (Nat.le_refl _)⟩, by simp [intOf]; omega⟩
  ·have : k = l.length := by omega
   subst this
   rw [List.take_of_length_le (by simp)] at hO
   clear hle
   go_wp2_with fail
   go_ret
   exact ⟨_, rfl, hO, hbr⟩

section
variable {P : Program} {ops : Array Oper} {rest : List Oper} {a : Act} {Q : Exit → Act → World → Prop} {d : Option Tmp} {src dst e ty : TypeId} {p : String} {x : Operand} {af : Array Edge} {w : World}
theorem wpList_bytes (s : ByteArray) (hs : P.underlying src = some .string) (hd : P.underlying dst = some (.slice e)) (he : P.underlying e = some (.int .u8)) (hx : a.eval x = .string s) (h0 : 0 < s.size) (hm : s.size ≤ 64)
  (hK : ∀ ad cap w', Reps cB 1 w' ad cap s.data.toList → Below w.heap.size w w' → wpList P ops Q rest (a.put d (.slice ad s.data.toList.length cap)) w') :
  wpList P ops Q (⟨d, .convert src dst x, ty, p, af, none⟩ :: rest) a w := by
 refine wpList_plain rfl fun K hK' => ?_
 have hrun := run_bytes_of_string (P := P) w src dst e s hs hd he
 unfold Oper.wp
 simp only [execOp, hx]
 simp [hrun, Result.andThen]
 refine hK' _ _ ?_
 obtain ⟨c, hc⟩ : ∃ c, c = grownCap w s.size 0 e := ⟨_, rfl⟩
 have hge : s.size ≤ c := by rw [hc]; exact grownCap_ge _ _ _ _
 have hmx : c ≤ maxLen := by rw [hc]; exact grownCap_le_maxLen _ _ _ _ (by unfold maxLen; omega)
 rw [← hc]
 have hlen : s.data.toList.length = s.size := by simp
 have hR : Reps cB 1 (w.drew.alloc (.cells (bytesRow s c) e ((bytesRow s c).size, (bytesRow s c).size + 1))) (some ⟨w.heap.size, 0, none⟩) c s.data.toList := by
  refine ⟨cBS, by rw [hlen]; exact hge, hmx, fun h => (by cases h), fun j u hj => ⟨w.heap.size, 0, rfl, ?_⟩⟩
  have e1 : ∀ l : List UInt8, (l.flatMap fun x => (cB x).cells.toList) = l.map cB := by
   intro l
   induction l with
   | nil => rfl
   | cons x r ih => rw [List.flatMap_cons, ih]; rfl
  rw [e1, List.getElem?_map] at hj
  have hcell := World.cell?_alloc_mark w.drew (bytesRow s c) e ((bytesRow s c).size, (bytesRow s c).size + 1) j
  rw [Nat.zero_add]
  refine hcell.trans ?_
  obtain ⟨x, hx1, hx2⟩ := Option.map_eq_some_iff.1 hj
  have hjl := (List.getElem?_eq_some_iff.1 hx1).1
  unfold bytesRow
  rw [Array.getElem?_append_left (by simpa using hjl), Array.getElem?_map]
  rw [Array.getElem?_toList] at hx1
  rw [hx1, ← hx2]
  rfl
 have hB : Below w.heap.size w (w.drew.alloc (.cells (bytesRow s c) e ((bytesRow s c).size, (bytesRow s c).size + 1))) := bal (Below.refl _ _).drew _
 have := hK _ c _ hR hB
 rw [hlen] at this
 exact this
theorem wpList_unbytes {b o cap : Nat} {l : List UInt8} (hs : P.underlying src = some (.slice e)) (he : P.underlying e = some (.int .u8)) (hd : P.underlying dst = some .string) (hx : a.eval x = .slice (some ⟨b, o, none⟩) l.length cap) (hR : Reps cB 1 w (some ⟨b, o, none⟩) cap l)
  (hK : wpList P ops Q rest (a.put d (.string ⟨l.toArray⟩)) w) : wpList P ops Q (⟨d, .convert src dst x, ty, p, af, none⟩ :: rest) a w := by
 refine wpList_plain rfl fun K hK' => ?_
 have hrun := run_convert_bytes_back (P := P) w src dst e ⟨b, o, none⟩ cap l hs he hd (fun j hj => by
  obtain ⟨b', o', e1, hcs⟩ := hR.cells (by decide) 0 j hj
  cases e1
  have := hcs 0 (cB l[j]) (by simp [cB, hj]; rfl)
  rw [Addr.add_z]
  simpa [cB] using this)
 unfold Oper.wp
 simp only [execOp, hx]
 simp [hrun, Result.andThen]
 exact hK' _ _ hK
end
end Go.Proofs.YtngpopalpofhgaaGreatDoor

namespace Go.Proofs.YtngpopalpofhgaaGreatDoor
open Go.RowKit
set_option maxHeartbeats 2000000
set_option maxRecDepth 100000

def revS (s : ByteArray) : ByteArray := ⟨s.data.toList.reverse.toArray⟩
def backP (p : PassV) : PassV := ⟨p.t, p.f, revS p.way⟩
def backL (l : List PassV) : List PassV := l.reverse.map backP
theorem backL_len (l : List PassV) : (backL l).length = l.length := by simp [backL]
theorem backL_at {l : List PassV} {k : Nat} (h : k < l.length) {j : Int} (hj : j = (l.length : Int) - 1 - k) : atD pass0 (backL l) k = backP (atD pass0 l j) := by
 have h1 : j.toNat = l.length - 1 - k := by omega
 have h2 : l.length - 1 - k < l.length := by omega
 unfold atD backL
 rw [h1, List.getD_eq_getElem?_getD, List.getElem?_map, Int.toNat_natCast, List.getElem?_reverse h, List.getD_eq_getElem?_getD, List.getElem?_eq_getElem h2]
 rfl
theorem backC_any (f t : Int) (s : ByteArray) (w : World) (h0 : 0 < s.size) (h1 : s.size ≤ 64) :
  Calls Tryz.prog 55 #[.agg #[.int .i64 f, .int .i64 t, .string s]] w fun r w' => r = .returned (.agg #[.int .i64 t, .int .i64 f, .string (revS s)]) ∧ Below w.heap.size w w' := by
 have hlen : s.data.toList.length = s.size := by simp
 have HL := hid hlen; clear hlen
 go_enter Tryz.func55, Tryz.ntmps55
 go_wp2_with ((with_reducible refine wpList_bytes s Tryz.underlying9 Tryz.underlying91 Tryz.underlying5 wU h0 h1 ?_); intro ad cap w1 hR hb1)
 have hS := (((SL.nil w).box (.cells #[.int .i64 f, .int .i64 t, .string s] 57)).box (.cells #[.int .i64 0, .int .i64 0, .string ⟨#[]⟩] 57)).mono hb1
 simp only [World.size_alloc] at hS
 have hc := revBytes_any ad cap s.data.toList w1 hR (by rw [HL.out]; omega)
 rw [HL.out] at hc
 refine hc.mono ?_
 rintro e w2 ⟨v2, rfl, ho2, hb2⟩
 clear hc
 obtain ⟨L, hLe⟩ : ∃ L, L = s.data.toList.reverse := ⟨_, rfl⟩
 rw [← hLe] at ho2
 have hLl : L.length = s.size := by rw [hLe, List.length_reverse, HL.out]
 have HLE := hid hLe; clear hLe
 obtain ⟨a2, cap2, rfl, hr2, hf2, _⟩ := ho2.reps
 obtain ⟨b2, o2, rfl, _⟩ := hr2.cells (by decide) 0 0 (by omega)
 have hS2 := hS.mono hb2
 have k0 := hS2.cell 1 rfl 0 rfl
 have k1 := hS2.cell 1 rfl 1 rfl
 have HLL := hid hLl; clear hLl
 go_wp2_with (first | (with_reducible refine wpList_unbytes Tryz.underlying91 Tryz.underlying5 Tryz.underlying9 wU hr2 ?_) | ((with_reducible refine wpList_stoR (us := #[.int .i64 t, .int .i64 f, .string ⟨L.toArray⟩]) 0 wU wU (hS2) wU kR wU wU ?_); intro w3 hS3))
 have e : revS s = ⟨L.toArray⟩ := by rw [revS, HLE.out]
 rw [e]
 exact bodyPost_ret (results_cell rfl rfl F_pass kR (hS3.blk 0 rfl).1) rfl ⟨rfl, hS3.b⟩

theorem revPasses_any (a : Option Addr) (cap : Nat) (l : List PassV) (w : World) (hS : PassesR w a cap l) (hl : l.length ≤ 1048576) (hw : ∀ p ∈ l, 0 < p.way.size ∧ p.way.size ≤ 64) :
  Calls Tryz.prog 54 #[.slice a l.length cap, .func (.func 55) #[] #[]] w fun r w' => ∃ v, r = .returned v ∧ Own cPass 3 w.heap.size 57 w' v (backL l) ∧ Below w.heap.size w w' := by
 have hcap := hS.le
 have hm := hS.max
 have HW := hid hw; clear hw
 go_enter Tryz.func54, Tryz.ntmps54
 go_wp2_with fail
 go_loopw [5, 6, 9] (fun v _ i wr => ∃ k : Nat, k ≤ l.length ∧ i = .int .i64 k ∧ Own cPass 3 w.heap.size 57 wr v ((backL l).take k) ∧ Below w.heap.size w wr) (fun _ _ i _ => l.length - (intOf i).toNat)
 case atStart => exact ⟨0, by omega, rfl, own_nil cPassS, Below.refl _ _⟩
 case round =>
  obtain ⟨k, hk, rfl, hO, hbr⟩ := hrel
  have hSr := hS.below hbr
  have hbs := hbr.size
  have hle : ((backL l).take k).length ≤ 1048576 := by simp; omega
  by_cases hlt : k < l.length
  ·have hs := take_step pass0 (backL l) k (by rw [backL_len]; exact hlt)
   rw [backL_at hlt rfl] at hs
   obtain ⟨o, ho⟩ : ∃ o, o = (backL l).take k := ⟨_, rfl⟩
   rw [← ho] at hs hO hle
   have HS := hid hs; clear hs ho
   obtain ⟨q1, q2⟩ := HW.out (atD pass0 l ((l.length : Int) - 1 - k)) (by
    have h1 : ((l.length : Int) - 1 - k).toNat = l.length - 1 - k := by omega
    have h2 : l.length - 1 - k < l.length := by omega
    unfold atD
    rw [h1, List.getD_eq_getElem?_getD, List.getElem?_eq_getElem h2]
    exact List.getElem_mem _)
   obtain ⟨f, hf⟩ : ∃ f, f = (atD pass0 l ((l.length : Int) - 1 - k)).f := ⟨_, rfl⟩
   obtain ⟨t, ht⟩ : ∃ t, t = (atD pass0 l ((l.length : Int) - 1 - k)).t := ⟨_, rfl⟩
   obtain ⟨s, hs⟩ : ∃ s, s = (atD pass0 l ((l.length : Int) - 1 - k)).way := ⟨_, rfl⟩
   rw [← hs] at q1 q2
   have HF := hid hf; have HT := hid ht; have HY := hid hs; clear hf ht hs
   go_wp2_with (first | (with_reducible refine wpList_idxS _ pass0 E_passes F_pass cPass1 wU wU (hSr) oD oD (fun _ => wU) (fun _ => ?_)))
   rw [← HF.out, ← HT.out, ← HY.out]
   refine (backC_any f t s wr q1 q2).mono ?_
   rintro e w2 ⟨rfl, hb2⟩
   have hO2 := hO.below hb2
   have b2 := bnext hbr hb2
   have hbs2 := b2.size
   obtain ⟨u, hu⟩ : ∃ u, u = revS s := ⟨_, rfl⟩
   rw [← hu]
   have HU := hid hu; clear hu
   go_wp2_with (first | ((with_reducible refine wpList_app (l := o) (ys := [(⟨t, f, u⟩ : PassV)]) E_passes wU wU ((hO2).alloc _) (reps_new1 cPassS ((⟨t, f, u⟩ : PassV)) _ _ (by simp) rfl) cPassO (by simp; omega) (by first | omega | (simp; omega)) (by simp; omega) ?_); intro v3 w3 ho3 hg3 hat3))
   have e : (backL l).take (k + 1) = o ++ [⟨t, f, u⟩] := by rw [HS.out, HU.out, HF.out, HT.out, HY.out]; rfl
   exact ⟨⟨k + 1, by omega, by go_num, by rw [e]; exact ho3, below_own (bal b2 (.cells #[.int .i64 t, .int .i64 f, .string u] 57)) hg3 (hO2.alloc _) (Nat.le_refl _)⟩, by simp [intOf]; omega⟩
  ·have : k = l.length := by omega
   subst this
   rw [List.take_of_length_le (by rw [backL_len]; exact Nat.le_refl _)] at hO
   clear hle
   go_wp2_with fail
   go_ret
   exact ⟨_, rfl, hO, hbr⟩

theorem passE_way {n : Int} {p : PassV} (hn : n ≤ 12) (h : passE n p = 0) : 0 < p.way.size ∧ p.way.size ≤ 64 := by
 obtain ⟨h1, h2, h3, h4, h5, h6, _⟩ := passE_zero h
 have := (passE_small hn h).2.2.1
 unfold distP at h6
 split at h6 <;> omega
theorem Back_any (n : Int) (a : Option Addr) (cap : Nat) (l : List PassV) (w : World) (hS : PassesR w a cap l) (hl : l.length ≤ 1048576) (hw : ∀ p ∈ l, p.way.size ≤ 1048576) :
  Calls Tryz.prog 19 #[.int .i64 n, .slice a l.length cap] w fun r w' => RetPsE w (if passesE n l = 0 then backL l else []) (passesE n l) r w' := by
 have hcap := hS.le
 have hm := hS.max
 have hc := CheckPasses_any n a cap l w hS hl hw
 by_cases h : passesE n l = 0
 ·obtain ⟨hn1, hn2, hl2, hall⟩ := passesE_zero h
  have CR := fun w (hS : PassesR w a cap l) => revPasses_any a cap l w hS hl (fun p hp => passE_way hn2 (hall p hp))
  rw [if_pos h, h]
  rw [h] at hc
  have HC := hid hc; have HR := hid CR; clear hc h hall CR hw
  go_enter Tryz.func19, Tryz.ntmps19
  go_wp2_with fail
  refine HC.out.mono ?_
  rintro e w1 ⟨rfl, hb1⟩
  go_wp2_with fail
  refine (HR.out w1 (hS.below hb1)).mono ?_
  rintro e w2 ⟨v2, rfl, ho2, hb2⟩
  go_wp2_with fail
  go_ret2
  exact RetPsE.own v2 rfl ho2 hb1.size (bnext hb1 hb2)
 ·rw [if_neg h]
  obtain ⟨q, hq⟩ : ∃ q, q = passesE n l := ⟨_, rfl⟩
  rw [← hq] at hc h ⊢
  have hne : (q != 0) = true := by simpa using h
  have HC := hid hc; clear hc hq hw
  go_enter Tryz.func19, Tryz.ntmps19
  go_wp2_with fail
  refine HC.out.mono ?_
  rintro e w1 ⟨rfl, hb1⟩
  go_wp2_with fail
  go_ret2
  exact RetPsE.none rfl hb1
end Go.Proofs.YtngpopalpofhgaaGreatDoor

namespace Go.Proofs.YtngpopalpofhgaaGreatDoor
open Go.RowKit
set_option maxHeartbeats 2000000
set_option maxRecDepth 100000

def revK (s : ByteArray) (c : Nat) : ByteArray := ⟨(s.data.toList.take c).reverse.toArray⟩
theorem revK_size (s : ByteArray) (c : Nat) (h : c ≤ s.size) : (revK s c).size = c := by
 have : c ≤ s.data.size := h
 show (s.data.toList.take c).reverse.toArray.size = c
 simp; omega
theorem revK_all (s : ByteArray) : revK s s.size = revS s := by
 unfold revK revS
 rw [List.take_of_length_le (by simp)]
end Go.Proofs.YtngpopalpofhgaaGreatDoor

namespace Go.Proofs.YtngpopalpofhgaaGreatDoor
open Go.RowKit
section
variable {P : Program} {ops : Array Oper} {w : World} {a : Act} {ty : TypeId} {p : String} {af : Array Edge} {g : Option (Nat × Bool)} {d : Tmp}
end

/-- the word of accepted passes is a word. -/
theorem lettersAll_word {n : Int} {l : List PassV} (h : passesE n l = 0) (hl : l.length ≤ 10) : wordE n (lettersAll l) = 0 ∧ (lettersAll l).length ≤ 110 := by
 obtain ⟨h1, h2, _, hall⟩ := passesE_zero h
 have hlen : (lettersAll l).length ≤ 11 * l.length := by
  clear h hl
  induction l with
  | nil => simp [lettersAll]
  | cons p r ih =>
   have q1 := (passE_small h2 (hall p (by simp))).2.2.1
   have q2 := ih (by simp_all; omega) (fun q hq => hall q (by simp [hq]))
   unfold lettersAll at q2 ⊢
   rw [List.flatMap_cons, List.length_append, lettersL_len, List.length_cons]
   omega
 refine ⟨?_, by omega⟩
 have hs0 : strandsE n = 0 := by unfold strandsE; rw [if_neg (by omega)]
 rw [wordE_any hs0 (by omega), if_neg]
 intro ha
 obtain ⟨x, hx, ho⟩ := List.any_eq_true.1 ha
 obtain ⟨p, hp, hx⟩ := List.mem_flatMap.1 hx
 obtain ⟨_, _, f1, f2⟩ := letter_fits h2 (hall p hp) x hx
 unfold absI at f1 f2
 simp only [outB, Bool.or_eq_true, beq_iff_eq, decide_eq_true_eq] at ho
 split at f1 <;> omega
end Go.Proofs.YtngpopalpofhgaaGreatDoor

namespace Go.Proofs.YtngpopalpofhgaaGreatDoor

end Go.Proofs.YtngpopalpofhgaaGreatDoor

namespace Go.Proofs.YtngpopalpofhgaaGreatDoor

theorem revS_size (s : ByteArray) : (revS s).size = s.size := by
 rw [← revK_all, revK_size s s.size (Nat.le_refl _)]
theorem byteAt_rev {s : ByteArray} {k : Nat} (h : k < s.size) : byteAt (revS s) k = byteAt s (s.size - 1 - k) := by
 have h2 : k < (revS s).size := by rw [revS_size]; exact h
 have h3 : s.size - 1 - k < s.size := by omega
 rw [byteAt_in h2, byteAt_in h3]
 congr 2
 rw [ByteArray.getElem_eq_getElem_data, ByteArray.getElem_eq_getElem_data]
 have e : ∀ (l : List UInt8) (i : Nat) (hi : i < l.reverse.toArray.size) (h2 : l.length - 1 - i < l.length), l.reverse.toArray[i]'hi = l[l.length - 1 - i]'h2 := fun l i hi h2 => by
  rw [List.getElem_toArray, List.getElem_reverse]
 exact e s.data.toList k h2 h3
theorem backP_ok {n : Int} {p : PassV} (h : passE n p = 0) : passE n (backP p) = 0 := by
 obtain ⟨h1, h2, h3, h4, h5, h6, h7⟩ := passE_zero h
 have htr : trimOU (backP p).way = ⟨#[]⟩ := trimOU_all fun k hk => by
  have hk2 : k < p.way.size := by have : k < (revS p.way).size := hk; rwa [revS_size] at this
  show byteAt (revS p.way) k = 111 ∨ byteAt (revS p.way) k = 117
  rw [byteAt_rev hk2]
  exact h7 _ (by omega)
 have hs : (backP p).way.size = p.way.size := revS_size _
 have hF : (backP p).f = p.t := rfl
 have hT : (backP p).t = p.f := rfl
 unfold passE
 rw [htr, hs]
 have hd : (p.way.size : Int) = distP (backP p) := by
  rw [h6]
  unfold distP
  rw [hF, hT]
  split <;> split <;> omega
 rw [hF, hT]
 rw [if_neg (by omega), if_neg (by omega), if_neg (fun hh => hh hd), if_neg (fun hh => hh rfl)]
theorem backP_letters {n : Int} {p : PassV} (h : passE n p = 0) : lettersL (backP p) = (lettersL p).reverse.map (fun x => -x) := by
 obtain ⟨h1, h2, h3, h4, h5, h6, h7⟩ := passE_zero h
 have hs : (backP p).way.size = p.way.size := revS_size _
 refine List.ext_getElem (by simp [lettersL_len, hs]) fun k hk1 hk2 => ?_
 have hk : k < p.way.size := by rw [lettersL_len, hs] at hk1; exact hk1
 have e1 : (lettersL (backP p))[k] = letterAt (backP p) k := by simp [lettersL, lettersK]
 rw [e1]
 simp only [List.getElem_map, List.getElem_reverse]
 have e2 : (lettersL p)[(lettersL p).length - 1 - k]'(by simp [lettersL_len]; omega) = letterAt p (p.way.size - 1 - k) := by simp [lettersL, lettersK]
 rw [e2]
 unfold letterAt
 rw [show byteAt (backP p).way k = byteAt p.way (p.way.size - 1 - k) from byteAt_rev hk, show (backP p).f = p.t from rfl, show (backP p).t = p.f from rfl]
 have hc : ((p.way.size - 1 - k : Nat) : Int) = (p.way.size : Int) - 1 - k := by omega
 rw [hc, h6]
 unfold distP
 by_cases hlt : p.t < p.f
 ·have a1 : (if p.f < p.t then (k : Int) + 1 - p.t else p.t + k) = p.t + k := if_neg (by omega)
  have a2 : (if p.f ≤ p.t then p.t - p.f else p.f - p.t) = p.f - p.t := if_neg (by omega)
  rw [a1, a2, if_pos hlt]
  split <;> omega
 ·have a1 : (if p.f < p.t then (k : Int) + 1 - p.t else p.t + k) = (k : Int) + 1 - p.t := if_pos (by omega)
  have a2 : (if p.f ≤ p.t then p.t - p.f else p.f - p.t) = p.t - p.f := if_pos (by omega)
  rw [a1, a2, if_neg hlt]
  split <;> omega
theorem backL_ok {n : Int} {l : List PassV} (h : ∀ p ∈ l, passE n p = 0) : ∀ p ∈ backL l, passE n p = 0 := by
 intro p hp
 obtain ⟨q, hq, rfl⟩ := List.mem_map.1 hp
 exact backP_ok (h q (List.mem_reverse.1 hq))
theorem backL_word {n : Int} : ∀ {l : List PassV}, (∀ p ∈ l, passE n p = 0) → lettersAll (backL l) = (lettersAll l).reverse.map (fun x => -x)
 | [], _ => rfl
 | p :: r, h => by
   have ih := backL_word (l := r) (fun q hq => h q (by simp [hq]))
   unfold lettersAll backL at ih ⊢
   rw [List.reverse_cons, List.map_append, List.flatMap_append, ih, List.flatMap_cons, List.reverse_append, List.map_append]
   simp only [List.map_cons, List.map_nil, List.flatMap_cons, List.flatMap_nil, List.append_nil]
   rw [backP_letters (h p (by simp))]
theorem passesGo_ok {n : Int} : ∀ {l : List PassV}, (∀ p ∈ l, passE n p = 0) → passesGo n l = 0
 | [], _ => rfl
 | p :: r, h => by
   rw [passesGo, if_neg (fun hh => hh (h p (by simp)))]
   exact passesGo_ok fun q hq => h q (by simp [hq])
theorem passesE_ok {n : Int} {l : List PassV} (h2 : 2 ≤ n) (h12 : n ≤ 12) (hl : l.length ≤ 1000) (h : ∀ p ∈ l, passE n p = 0) : passesE n l = 0 := by
 unfold passesE
 rw [if_neg (by omega), if_neg (by omega)]
 exact passesGo_ok h
end Go.Proofs.YtngpopalpofhgaaGreatDoor

namespace Go.Proofs.YtngpopalpofhgaaGreatDoor
set_option maxRecDepth 100000
theorem atD_map2 {l : List Int} {f : Int → Int} {i : Nat} (h : i < l.length) : atD 0 (l.map f) i = f (atD 0 l i) := by simp [atD, h]
end Go.Proofs.YtngpopalpofhgaaGreatDoor

namespace Go.Proofs.YtngpopalpofhgaaGreatDoor
set_option maxRecDepth 100000
/-- no two ever meet. -/
def AllA (m : MacV) (l : List Int) : Prop := ∀ x ∈ l, ∀ y ∈ l, x ≠ y → meetM m x y = none
structure GoodL (m : MacV) (l : List Int) (s : Int) : Prop where
 all : AllA m l
 asc : l.Pairwise (· < ·)
 rng : ∀ x ∈ l, 0 ≤ x ∧ x < s
theorem GoodL.mono {m : MacV} {l : List Int} {s t : Int} (h : GoodL m l s) (hst : s ≤ t) : GoodL m l t := ⟨h.all, h.asc, fun x hx => by have := h.rng x hx; omega⟩
end Go.Proofs.YtngpopalpofhgaaGreatDoor

namespace Go.Proofs.YtngpopalpofhgaaGreatDoor
open Go.RowKit
set_option maxHeartbeats 8000000
set_option maxRecDepth 100000
theorem amSame (a a2 : Option Addr) (cap cap2 n : Nat) (l : List Int) (w : World) (h : Ints w a cap l) (h2 : Ints w a2 cap2 l) (hn : l.length = n) (hs : n ≤ 1048576) : Calls Tryz.prog 15 #[.slice a n cap, .slice a2 n cap2] w fun r w' => r = .returned (.bool true) ∧ Below w.heap.size w w' := by
 subst hn
 have := SameInts_any a a2 cap cap2 l l w h h2 hs
 rw [decide_eq_true rfl] at this
 exact this
end Go.Proofs.YtngpopalpofhgaaGreatDoor

namespace Go.Proofs.YtngpopalpofhgaaGreatDoor
set_option maxRecDepth 100000
theorem swp_swap {r : List Int} {p : Nat} (h : p + 1 < r.length) : swpL r p = swapL r ((p : Int) + 1) :=
 ext_atD (by rw [swp_length, swapL_len]) fun j j0 j1 => by
  rw [swp_atD h j0, swapL_at (by omega) (by omega) j0, show (p : Int) + 1 - 1 = p by omega]
def LetRng (k : Nat) (w : List Int) : Prop := ∀ x ∈ w, 1 ≤ absI x ∧ absI x < (k : Int)
theorem row5_VP {k : Nat} {w : List Int} (h : LetRng k w) : VP k (row5 (idL k) w) :=
 ⟨row5_isP w _ (idL_isP k) (fun x hx => by rw [idL_len]; exact h x hx), by rw [row5_len, idL_len]⟩
section
variable {m : MacV} {l : List Int} {n : Int}
end
end Go.Proofs.YtngpopalpofhgaaGreatDoor

namespace Go.Proofs.YtngpopalpofhgaaGreatDoor
set_option maxRecDepth 100000
def pushO (s : List Int) (x : Int) : List Int := match s with | [] => [x] | y :: t => if y = -x then t else x :: y :: t
def RedS : List Int → Prop
 | [] => True
 | [_] => True
 | a :: b :: t => a ≠ -b ∧ RedS (b :: t)
theorem redS_tail {a : Int} {t : List Int} (h : RedS (a :: t)) : RedS t := by
 cases t with
 | nil => trivial
 | cons b u => exact h.2
theorem pushO_red {s : List Int} (h : RedS s) (x : Int) : RedS (pushO s x) := by
 cases s with
 | nil => trivial
 | cons y t =>
  show RedS (if y = -x then t else x :: y :: t)
  split
  ·exact redS_tail h
  ·rename_i hne; exact ⟨fun e => hne (by omega), h⟩
theorem pushO_back {s : List Int} (h : RedS s) (x : Int) : pushO (pushO s x) (-x) = s := by
 cases s with
 | nil => show (if x = -(-x) then [] else _) = []; rw [if_pos (by omega)]
 | cons y t =>
  show pushO (if y = -x then t else x :: y :: t) (-x) = y :: t
  by_cases e : y = -x
  ·rw [if_pos e]
   cases t with
   | nil => rw [e]; rfl
   | cons z u =>
    have hz : z ≠ -(-x) := fun e2 => h.1 (by omega)
    show (if z = -(-x) then u else -x :: z :: u) = _
    rw [if_neg hz, e]
  ·rw [if_neg e]
   show (if x = -(-x) then y :: t else _) = _
   rw [if_pos (by omega)]
theorem red_undo : ∀ (w s : List Int), RedS s → (w ++ invW w).foldl pushO s = s
 | [], s, _ => by simp [invW]
 | x :: w, s, h => by
   have e : (x :: w) ++ invW (x :: w) = x :: ((w ++ invW w) ++ [-x]) := by rw [invW_cons]; simp
   rw [e, List.foldl_cons, List.foldl_append, red_undo w _ (pushO_red h x), List.foldl_cons, List.foldl_nil, pushO_back h]
def mvL (st : List Int) (f t : Nat) : List Int := (fun rest => rest.take (t - 1) ++ [st.getD (f - 1) 0] ++ rest.drop (t - 1)) (st.take (f - 1) ++ st.drop f)
theorem up_row : ∀ (B A C : List Int) (x : Int) (w : List Int), w.length = B.length → (∀ k : Nat, k < B.length → absI (atD 0 w k) = (A.length : Int) + k + 1) → row5 (A ++ x :: (B ++ C)) w = A ++ B ++ x :: C
 | [], A, C, x, w, hl, _ => by
   rw [List.length_nil, List.length_eq_zero_iff] at hl
   subst hl
   simp [row5]
 | b :: B, A, C, x, w, hl, h => by
   cases w with
   | nil => simp at hl
   | cons y w =>
     have h0 := h 0 (by simp)
     have hy : absI y = (A.length : Int) + 1 := by simpa [atD] using h0
     have e : swapL (A ++ x :: b :: (B ++ C)) ((A.length : Int) + 1) = A ++ b :: x :: (B ++ C) := by
       rw [← swp_swap (by simp), swpL_at]
     rw [row5, hy, List.cons_append, e]
     have ih := up_row B (A ++ [b]) C x w (by simpa using hl) fun k hk => by
       have := h (k + 1) (by simp; omega)
       have e2 : atD 0 (y :: w) ((k + 1 : Nat) : Int) = atD 0 w k := by unfold atD; simp
       rw [e2] at this
       rw [this, List.length_append, List.length_singleton]
       omega
     simpa using ih
theorem down_row : ∀ (n : Nat) (A B C : List Int) (x : Int) (w : List Int), B.length = n → w.length = n → (∀ k : Nat, k < n → absI (atD 0 w k) = (A.length : Int) + n - k) → row5 (A ++ B ++ x :: C) w = A ++ x :: (B ++ C)
 | 0, A, B, C, x, w, hb, hl, _ => by
   rw [List.length_eq_zero_iff] at hl hb
   subst hl; subst hb
   simp [row5]
 | n + 1, A, B, C, x, w, hb, hl, h => by
   cases w with
   | nil => simp at hl
   | cons y w =>
     have hne : B ≠ [] := fun e => by subst e; simp at hb
     obtain ⟨B', b, rfl⟩ : ∃ B' b, B = B' ++ [b] := ⟨B.dropLast, B.getLast hne, (List.dropLast_concat_getLast hne).symm⟩
     have hb' : B'.length = n := by simpa using hb
     have h0 := h 0 (by omega)
     have hy : absI y = ((A ++ B').length : Int) + 1 := by
       rw [List.length_append, hb']
       have e2 : atD 0 (y :: w) ((0 : Nat) : Int) = y := by simp [atD]
       rw [e2] at h0
       omega
     have e : swapL (A ++ (B' ++ [b]) ++ x :: C) (((A ++ B').length : Int) + 1) = A ++ B' ++ x :: (b :: C) := by
       rw [← swp_swap (by simp; omega), show A ++ (B' ++ [b]) ++ x :: C = (A ++ B') ++ b :: x :: C by simp, swpL_at]
     rw [row5, hy, e]
     have ih := down_row n A B' (b :: C) x w hb' (by simpa using hl) fun k hk => by
       have := h (k + 1) (by omega)
       have e2 : atD 0 (y :: w) ((k + 1 : Nat) : Int) = atD 0 w k := by unfold atD; simp
       rw [e2] at this
       rw [this]
       omega
     rw [ih]
     simp
theorem lettersL_at {p : PassV} {k : Nat} (h : k < p.way.size) : atD 0 (lettersL p) k = letterAt p k := by
 unfold lettersL lettersK atD
 rw [List.getD_eq_getElem?_getD, List.getElem?_map, Int.toNat_natCast, List.getElem?_range h]
 rfl
theorem letter_abs {p : PassV} {k : Nat} (h1 : 1 ≤ p.f) (h : p.t < p.f → (k : Int) + 1 ≤ p.f) : absI (letterAt p k) = if p.t < p.f then p.f - 1 - k else p.f + k := by
 unfold letterAt absI
 by_cases a : p.t < p.f
 ·have := h a
  simp only [if_pos a]
  split <;> split <;> omega
 ·simp only [if_neg a]
  split <;> split <;> omega
theorem pass_row {n : Nat} {p : PassV} (h : passE n p = 0) {st : List Int} (hl : st.length = n) : row5 st (lettersL p) = mvL st p.f.toNat p.t.toNat := by
 obtain ⟨h1, h2, h3, h4, h5, h6, -⟩ := passE_zero h
 have hll : (lettersL p).length = p.way.size := lettersL_len p
 unfold distP at h6
 unfold mvL
 dsimp only
 by_cases hft : p.f ≤ p.t
 ·rw [if_pos hft] at h6
  obtain ⟨f, hf⟩ : ∃ f : Nat, p.f = (f : Int) + 1 := ⟨(p.f - 1).toNat, by omega⟩
  obtain ⟨d, hd⟩ : ∃ d : Nat, p.t = (f : Int) + 1 + d := ⟨(p.t - p.f).toNat, by omega⟩
  have e1 : p.f.toNat = f + 1 := by omega
  have e2 : p.t.toNat = f + 1 + d := by omega
  have hw : p.way.size = d := by omega
  rw [e1, e2, show f + 1 - 1 = f by omega, show f + 1 + d - 1 = f + d by omega]
  obtain ⟨A, x, R, hA, rfl⟩ : ∃ A x R, A.length = f ∧ st = A ++ x :: R := ⟨st.take f, st[f]'(by omega), st.drop (f + 1), by simp; omega, by rw [List.getElem_cons_drop, List.take_append_drop]⟩
  have hR : d ≤ R.length := by simp at hl; omega
  obtain ⟨B, C, hB, rfl⟩ : ∃ B C, B.length = d ∧ R = B ++ C := ⟨R.take d, R.drop d, by simp; omega, (List.take_append_drop d R).symm⟩
  rw [up_row B A C x _ (by rw [hll, hw, hB]) (fun k hk => by
   rw [lettersL_at (by omega), letter_abs h1 (fun hh => by omega), if_neg (by omega), hA]
   omega)]
  have t1 : (A ++ x :: (B ++ C)).take f = A := by rw [← hA]; simp
  have t2 : (A ++ x :: (B ++ C)).drop (f + 1) = B ++ C := by rw [← hA, show A ++ x :: (B ++ C) = (A ++ [x]) ++ (B ++ C) by simp, show A.length + 1 = (A ++ [x]).length by simp, List.drop_left]
  have t3 : (A ++ x :: (B ++ C)).getD f 0 = x := by rw [← hA]; simp [List.getD_eq_getElem?_getD]
  rw [t1, t2, t3, ← List.append_assoc A B C]
  have t4 : f + d = (A ++ B).length := by simp [hA, hB]
  rw [t4, List.take_left, List.drop_left]
  simp
 ·rw [if_neg hft] at h6
  obtain ⟨t, ht⟩ : ∃ t : Nat, p.t = (t : Int) + 1 := ⟨(p.t - 1).toNat, by omega⟩
  obtain ⟨d, hd⟩ : ∃ d : Nat, p.f = (t : Int) + 1 + d := ⟨(p.f - p.t).toNat, by omega⟩
  have e1 : p.t.toNat = t + 1 := by omega
  have e2 : p.f.toNat = t + 1 + d := by omega
  have hw : p.way.size = d := by omega
  rw [e1, e2, show t + 1 - 1 = t by omega, show t + 1 + d - 1 = t + d by omega]
  obtain ⟨A, R, hA, rfl⟩ : ∃ A R, A.length = t ∧ st = A ++ R := ⟨st.take t, st.drop t, by simp; omega, (List.take_append_drop t st).symm⟩
  have hR : d + 1 ≤ R.length := by simp at hl; omega
  obtain ⟨B, x, C, hB, rfl⟩ : ∃ B x C, B.length = d ∧ R = B ++ x :: C := ⟨R.take d, R[d]'(by omega), R.drop (d + 1), by simp; omega, by rw [List.getElem_cons_drop, List.take_append_drop]⟩
  rw [← List.append_assoc, down_row d A B C x _ hB (by rw [hll, hw]) (fun k hk => by
   rw [lettersL_at (by omega), letter_abs h1 (fun hh => by omega), if_pos (by omega), hA]
   omega)]
  have t4 : t + d = (A ++ B).length := by simp [hA, hB]
  have t1 : (A ++ B ++ x :: C).take (t + d) = A ++ B := by rw [t4, List.take_left]
  have t2 : (A ++ B ++ x :: C).drop (t + 1 + d) = C := by rw [show t + 1 + d = (A ++ B ++ [x]).length by simp [hA, hB]; omega, show A ++ B ++ x :: C = (A ++ B ++ [x]) ++ C by simp, List.drop_left]
  have t3 : (A ++ B ++ x :: C).getD (t + d) 0 = x := by rw [t4]; simp [List.getD_eq_getElem?_getD]
  rw [t1, t2, t3, List.append_assoc A B C]
  rw [← hA, List.take_left, List.drop_left]
  simp
theorem row5_cat : ∀ (a b st : List Int), row5 st (a ++ b) = row5 (row5 st a) b
 | [], _, _ => rfl
 | x :: r, b, st => by rw [List.cons_append, row5, row5]; exact row5_cat r b _
/-- the row after passes. -/
def rowPs (n : Nat) (l : List PassV) : List Int := l.foldl (fun st p => mvL st p.f.toNat p.t.toNat) (idL n)
theorem rowPs_eq {n : Nat} : ∀ (l : List PassV) (st : List Int), (∀ p ∈ l, passE n p = 0) → st.length = n → l.foldl (fun st p => mvL st p.f.toNat p.t.toNat) st = row5 st (lettersAll l)
 | [], st, _, _ => rfl
 | p :: l, st, h, hl => by
   rw [List.foldl_cons, show lettersAll (p :: l) = lettersL p ++ lettersAll l from List.flatMap_cons, row5_cat, pass_row (h p (by simp)) hl]
   refine rowPs_eq l _ (fun q hq => h q (by simp [hq])) ?_
   rw [← pass_row (h p (by simp)) hl, row5_len, hl]
/-- the permutation of the word says where each strand of the row is. -/
theorem perm_rowPs {n : Nat} {l : List PassV} (h : ∀ p ∈ l, passE n p = 0) (hr : LetRng n (lettersAll l)) {i : Nat} (hi : i < n) : (0 ≤ atD 0 (rowPs n l) i ∧ atD 0 (rowPs n l) i < n) ∧ atD 0 (permB n (lettersAll l)) (atD 0 (rowPs n l) i) = i := by
 have e : rowPs n l = row5 (idL n) (lettersAll l) := rowPs_eq l _ h (idL_len n)
 have hv := row5_VP hr
 rw [e]
 exact ⟨hv.rg (by omega) (by omega), hv.qp (by omega) (by omega)⟩
end Go.Proofs.YtngpopalpofhgaaGreatDoor
