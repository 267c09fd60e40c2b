/- Contracts and plain facts that the claim uses (TcP LmA QsI Tc1 Tc). Conditions: as each one states. -/
import Derived.RangeFuncNested
import Derived.RangeFuncBound
import Derived.RangeFuncCalls
import Derived.RangeFuncLeaves
import Derived.RangeFuncFrom
import Derived.Shelf.Abstract
import Derived.Shelf.RegionOpen
import Derived.WalkKit
import Derived.OwnWalkIn
import Derived.TacticsInMore
import Derived.LoopNIn
import Derived.LoopIn
import Derived.Test.YtglpfpdomnllkaaGreatDoorProg
import Derived.WalkSpells
import Derived.Maps.AppendAt
import Derived.Deep.Quiet
import Derived.Maps.Own
import Derived.Maps.OwnSet
import Derived.Maps.Views
import Derived.WalkLawsBesides
import Derived.Laws.EntriesVeiled
import Derived.Deep.QuietTactic
import Derived.BigQuiet
import Derived.StillTail
import Derived.Laws.Tables
import Derived.Deep.RegionHeld3
import Derived.Shelf.Strings.Trim
import Derived.Shelf.Strings.SlTrimAscii
import Derived.Shelf.Strings.Repeat
import Derived.Shelf.Strings.OnBuilder
import Derived.Shelf.Strconv.Itoa1
import Derived.Shelf.Strconv.Itoa3
import Derived.Shelf.LaysM
import Derived.Ground.Names2Prog
import Derived.Lib.OthersKept
import Derived.Deep.AppendLies
import Derived.Deep.RegionHeldLaw
import Derived.Deep.RegionLaw
import Derived.IntWalk
import Derived.Laws.CopyOwn
import Derived.BigRegion
import Derived.ChangeAlike
import Derived.Shelf.Bits.Mul64
import Derived.Lib.ItoaLen
import Derived.Lib.ItoaMem
import Derived.Sort.LoopGhostIn
import Derived.Maps.RangeWalk
import Derived.Sort.QuietThIn
import Derived.Maps.Ext
import Derived.Deep.LoopGhost
import Derived.Lib.Split
import Derived.Lib.AtoiAll
import Derived.Lib.AppendIntMem
import Derived.Lib.SmallJoins
import Derived.LaidSub
import Derived.Lib.LaidTab
import Derived.Lib.AtoiErrMem
import Derived.Stop.LaidErr
import Derived.ReadAgain
import Derived.ChangeSlices
import Derived.OpenShut
import Derived.ProofKit
import Derived.Deep.DeepHandedRow
import Derived.Deep.SlicePairs
import Derived.Laws.IdiomStrings
import Derived.Test.YtglpfpdomnllkaaGreatDoorXd01
import Derived.Test.YtglpfpdomnllkaaGreatDoorXd02
import Derived.Test.YtglpfpdomnllkaaGreatDoorXd03
import Derived.Test.YtglpfpdomnllkaaGreatDoorXd04
import Derived.Test.YtglpfpdomnllkaaGreatDoorY7301
import Derived.Test.YtglpfpdomnllkaaGreatDoorY7302
import Derived.Test.YtglpfpdomnllkaaGreatDoorY7303
import Derived.Test.YtglpfpdomnllkaaGreatDoorY7304
import Derived.Test.YtglpfpdomnllkaaGreatDoorY7305
import Derived.Test.YtglpfpdomnllkaaGreatDoorY7306
import Derived.Test.YtglpfpdomnllkaaGreatDoorY7307
set_option linter.all false

namespace Go.Proofs.YtglpfpdomnllkaaGreatDoor
set_option maxRecDepth 100000
theorem way_le2 {L : List PassV} {p : PassV} (h : p ∈ L) : p.way.size ≤ (lettersAll L).length := by
 induction L with
 | nil => cases h
 | cons q L ih =>
  have e : lettersAll (q :: L) = lettersL q ++ lettersAll L := by simp [lettersAll]
  rw [e, List.length_append, lettersL_len]
  rcases List.mem_cons.1 h with rfl | h
  ·omega
  ·have := ih h; omega
/-- where the strands end. -/
theorem tc_ends {N : Nat} {l : List Int} {P : List PassV} (h : LetRng N l) (hp : lettersAll P = l) : endsP (N : Int) P = row5 (idL N) l := by
 unfold endsP lessL rowL
 rw [hp, rowGo_row5, Int.toNat_natCast, startL_map, row5_map (· + 1) l _ (idL_len N) h]
 apply List.ext_getElem
 ·simp [row5_len, idL_len]
 ·intro i h1 h2
  rw [List.getElem_map, List.getElem_range, atD_map2 h2]
  simp [atD, h2]
/-- the strands above in the crossings of four repetitions are those that are seen, row by row. -/
theorem tc_over {N : Nat} {l : List Int} (h : LetRng N l) {i k : Nat} (hi : i < 4) (hk : k < l.length) : i * l.length + k < 4 * l.length ∧ ∃ u, atD (0, 0) (rowL N (wTimes l 4)).2 ((i * l.length + k : Nat) : Int) = (atD 0 (rowSeen N l i) (k : Int) + 1, u) := by
 have e := cross_seen (wTimes_rng h 4)
 have hlen : ((rowL N (wTimes l 4)).2).length = 4 * l.length := by rw [← List.length_map (f := Prod.fst), e, List.length_map, seenGo_len, wTimes_len]
 have hj : i * l.length + k < 4 * l.length := by
  have : (i + 1) * l.length ≤ 4 * l.length := Nat.mul_le_mul_right _ (by omega)
  rw [Nat.succ_mul] at this
  omega
 have h2 := seen_at h 4 i k hi hk
 refine ⟨hj, (atD (0, 0) (rowL N (wTimes l 4)).2 ((i * l.length + k : Nat) : Int)).2, ?_⟩
 have hs : i * l.length + k < (seenGo (idL N) (wTimes l 4)).length := by rw [seenGo_len, wTimes_len]; exact hj
 have h3 := congrArg (fun L => atD (0 : Int) L ((i * l.length + k : Nat) : Int)) e
 rw [atD_map2 hs, h2] at h3
 rw [← h3]
 have h4 : atD (0 : Int) ((rowL N (wTimes l 4)).2.map Prod.fst) ((i * l.length + k : Nat) : Int) = (atD (0, 0) (rowL N (wTimes l 4)).2 ((i * l.length + k : Nat) : Int)).1 := by
  have : i * l.length + k < ((rowL N (wTimes l 4)).2).length := by omega
  rw [show (0 : Int) = Prod.fst ((0, 0) : Int × Int) from rfl]
  unfold atD
  rw [List.getD_eq_getElem?_getD, List.getD_eq_getElem?_getD, List.getElem?_map]
  cases ((rowL N (wTimes l 4)).2)[(((i * l.length + k : Nat) : Int)).toNat]? <;> rfl
 rw [h4]
theorem tc_clen {N : Nat} {l : List Int} (h : LetRng N l) : ((rowL N (wTimes l 4)).2).length = 4 * l.length := by
 rw [← List.length_map (f := Prod.fst), cross_seen (wTimes_rng h 4), List.length_map, seenGo_len, wTimes_len]
/-- the repeat of a placing divides the period of its scheme. -/
theorem tc_div {N : Nat} {l C : List Int} (h : LetRng N l) {k : Nat} (hk : RepOk (paintAt (seenL N l) (row5 (idL N) l) C) (perG (row5 (idL N) l) (seenL N l)) k) : k ∣ perG (row5 (idL N) l) (seenL N l) := by
 obtain ⟨h1, h2, h3, h4⟩ := hk
 rcases Nat.lt_or_ge k (perG (row5 (idL N) l) (seenL N l)) with hlt | hge
 ·refine shift_dvd (paintAt (seenL N l) (row5 (idL N) l) C) _ k (by omega) (fun i => ?_) (by omega) (h3 hlt) (fun r r0 r1 => ?_)
  ·have h5 := rows_round h i
   unfold paintAt
   show (rowSeen N l (i + _)).map _ = (rowSeen N l i).map _
   rw [h5]
  ·apply Classical.byContradiction
   intro h5
   refine h4 r r0 r1 fun i hi => ?_
   apply Classical.byContradiction
   intro h6
   exact h5 ⟨i, hi, h6⟩
 ·rw [show k = perG (row5 (idL N) l) (seenL N l) by omega]
  exact Nat.dvd_refl _
/-- what the statement wants of the passes of a scheme. -/
structure TcPs (N : Nat) (l : List Int) (P : List PassV) : Prop where
 wo : lettersAll P = l
 sz : ∀ p ∈ P, p.way.size ≤ 10
 le : P.length ≤ 10
 sh : shortPB P = true
 e0 : passesE (N : Int) P = 0
 re : rptE (N : Int) P = 0
 rb : rptB (N : Int) P = itoaB (periodN (row5 (idL N) l))
 en : endsP (N : Int) P = row5 (idL N) l
theorem tc_passes {N : Nat} {l : List Int} (h : LetRng N l) (h2 : 2 ≤ N) (h6 : N ≤ 6) (hl : l.length ≤ 10) : TcPs N l (passesOf l.length l) := by
 have hnz : ∀ x ∈ l, x ≠ 0 := fun x hx e => by have := (h x hx).1; subst e; simp [absI] at this
 have hPW := passesOf_word l.length l (Nat.le_refl _) hnz
 have hPok : ∀ p ∈ passesOf l.length l, passE (N : Int) p = 0 := passesOf_ok _ _ fun x hx => by
  have := h x hx
  exact ⟨by omega, by omega⟩
 have hPsz : ∀ p ∈ passesOf l.length l, p.way.size ≤ 10 := fun p hp => by have := way_le2 hp; rw [hPW] at this; omega
 have hPlen : (passesOf l.length l).length ≤ 10 := Nat.le_trans (passesOf_size l.length l) hl
 have hPE : passesE (N : Int) (passesOf l.length l) = 0 := passesE_ok (by omega) (by omega) (by omega) hPok
 have hen := tc_ends h hPW
 have hv := row5_VP h
 have hp0 : permE (row5 (idL N) l) = 0 := permE_ok hv.1 (by have := hv.2; omega)
 refine ⟨hPW, hPsz, hPlen, ?_, hPE, ?_, ?_, hen⟩
 ·unfold shortPB shortM
  simp only [Bool.and_eq_true, Bool.or_eq_true, decide_eq_true_eq, List.all_eq_true]
  exact ⟨.inl (by omega), fun p hp => by have := hPsz p hp; omega⟩
 ·unfold rptE; rw [if_pos hPE, hen, hp0]
 ·unfold rptB perS; rw [if_pos hPE, hen, if_pos hp0]
/-- the quotient of the numbers of repetitions is whole. -/
theorem tc_whole {N : Nat} {l : List Int} (h : LetRng N l) (h2 : 2 ≤ N) (h6 : N ≤ 6) : 0 < perG (row5 (idL N) l) (seenL N l) ∧ perG (row5 (idL N) l) (seenL N l) ≤ 81 ∧ 0 < periodN (row5 (idL N) l) ∧ periodN (row5 (idL N) l) ≤ 81 ∧ periodN (row5 (idL N) l) / Nat.gcd (periodN (row5 (idL N) l)) (perG (row5 (idL N) l) (seenL N l)) ≤ 81 ∧ perG (row5 (idL N) l) (seenL N l) / Nat.gcd (periodN (row5 (idL N) l)) (perG (row5 (idL N) l) (seenL N l)) = 1 := by
 have hv := row5_VP h
 have hs : ∀ x ∈ seenL N l, 0 ≤ x ∧ x < (row5 (idL N) l).length := fun x hx => by
  have hl2 := hv.2
  rw [hl2]
  exact seen_rng l (idL N) (idL_VP N) h x hx
 have hg := perG_le hv.1 hs (by have := hv.2; omega)
 have hd := perG_dvd hv.1 hs
 have h81 := period_81 hv.1 (by have := hv.2; omega)
 have hp := period_pos hv.1
 refine ⟨hg.1, hg.2, hp, h81, Nat.le_trans (Nat.div_le_self _ _) h81, ?_⟩
 rw [Nat.gcd_eq_right hd]
 exact Nat.div_self hg.1
end Go.Proofs.YtglpfpdomnllkaaGreatDoor

namespace Go.Proofs.YtglpfpdomnllkaaGreatDoor
open Go.RowKit
set_option maxHeartbeats 4000000
set_option maxRecDepth 100000
section
variable {P : Program} {ops : Array Oper} {rest : List Oper} {a : Act} {Qa : Act → Prop} {α : Type} {c : α → Value} {sz bytes : Nat} {t e e2 t2 : TypeId} {z : Value} {ad : Option Addr} {cap : Nat} {l : List α} {k : Int} {w : World}
 {d1 d2 d3 : Tmp} {ty1 ty2 ty3 : TypeId} {p1 p2 p3 : String} {s x : Operand} {af1 af2 af3 : Array Edge} {g1 g2 g3 : Option (Nat × Bool)} {j : Nat}
theorem wpB_fldG (d : α) (v : Value) (E : ETy P t e z sz bytes) (hF : Flat P e2)
   (hf : ∀ (b o : Nat) (w' : World), (Instr.fieldAt t2 (.pointer (some ⟨b, o, none⟩)) j).run P w' = .ok (.pointer (some ⟨b, o + j, none⟩)) w')
   {n : Nat} (hs : a.eval s = .slice ad n cap) (hn : l.length = n) (hx : a.eval x = .int .i64 k) (hR : Reps c sz w ad cap l) (h0 : 0 ≤ k) (hlt : k < l.length)
   (hv : (c (atD d l k)).cells.toList[j]? = some v) (hd : ∀ p, (a.put (some d1) p).eval (.tmp d1) = p) (hd2 : ∀ p q, ((a.put (some d1) p).put (some d2) q).eval (.tmp d2) = q)
   (hw1 : Region.wanted ⟨some d1, .indexAddr t s x, ty1, p1, af1, g1⟩ (yielded ops a.tmps) = true) (hw2 : ∀ p, Region.wanted ⟨some d2, .fieldAddr t2 (.tmp d1) j, ty2, p2, af2, g2⟩ (yielded ops (a.put (some d1) p).tmps) = true)
   (hw3 : ∀ p q, Region.wanted ⟨some d3, .load e2 (.tmp d2), ty3, p3, af3, g3⟩ (yielded ops ((a.put (some d1) p).put (some d2) q).tmps) = true)
   (hK : ∀ p q, wpQuiet P ops (Below w.heap.size w) Qa rest (((a.put (some d1) p).put (some d2) q).put (some d3) v)) :
   wpQuiet P ops (Below w.heap.size w) Qa (⟨some d1, .indexAddr t s x, ty1, p1, af1, g1⟩ :: ⟨some d2, .fieldAddr t2 (.tmp d1) j, ty2, p2, af2, g2⟩ :: ⟨some d3, .load e2 (.tmp d2), ty3, p3, af3, g3⟩ :: rest) a := by
 subst hn
 have hkl : k.toNat < l.length := by omega
 obtain ⟨b, o, rfl, hcs⟩ := hR.cells E.pos d k.toNat hkl
 have hcell := hcs j v hv
 have hadd : (⟨b, o, none⟩ : Addr).add (k.toNat * sz) = ⟨b, o + k.toNat * sz, none⟩ := Addr.add_z ..
 refine wpQ_inG (.pointer (some ((⟨b, o, none⟩ : Addr).add (k.toNat * sz)))) hw1 (fun w' hw' => ?_) (wpQ_inG (.pointer (some ⟨b, o + k.toNat * sz + j, none⟩)) (hw2 _) (fun w' hw' => ?_) (wpQ_inG v (hw3 _ _) (fun w' hw' => ?_) (hK _ _)))
 ·have h1 := run_indexAt_sl (P := P) (a := ⟨b, o, none⟩) (cap := cap) w' E h0 hlt
  simp [execOp, hs, hx, h1, Result.andThen]
 ·have h1 := hf b (o + k.toNat * sz) w'
  rw [← hadd] at h1
  simp [execOp, hd, h1, Result.andThen]
 ·have h2 := run_loadAt_cell (P := P) w' (a := (⟨b, o + k.toNat * sz + j, none⟩ : Addr)) (v := v) hF ((hw'.cell (World.block_lt_of_cell? w _ hcell)).trans hcell)
  simp [execOp, hd2, h2, Result.andThen]
end
end Go.Proofs.YtglpfpdomnllkaaGreatDoor

namespace Go.Proofs.YtglpfpdomnllkaaGreatDoor
open Go.RowKit
set_option maxHeartbeats 8000000
set_option maxRecDepth 100000
theorem rIsWhole_any (p : Nat) (w : World) (hp : p < 1000000000) :
  Calls Tryz.prog 16 #[.string (itoaB p)] w fun r w' => r = .returned (.bool true) ∧ Below w.heap.size w w' := by
 have hz := (itoaB_len hp).1
 have hs : SlashAt (itoaB (p : Int)) (itoaB (p : Int)).size := by
  have := textQ_slash p 1
  rw [textQ_one] at this
  exact this
 have CS := fun w => rslash_any (itoaB (p : Int)) _ w hs (by omega)
 obtain ⟨s, hs2⟩ : ∃ s, s = itoaB (p : Int) := ⟨_, rfl⟩
 rw [← hs2] at CS hz ⊢
 have HS := hid CS
 clear CS hs hs2
 go_enter Tryz.func16, Tryz.ntmps16
 go_wp2_with fail
 refine (HS.out _).mono ?_
 rintro e w1 ⟨rfl, rfl⟩
 go_wp2_with fail
 go_ret
 exact ⟨rfl, Below.refl _ _⟩
end Go.Proofs.YtglpfpdomnllkaaGreatDoor

namespace Go.Proofs.YtglpfpdomnllkaaGreatDoor
open Go.RowKit
set_option maxHeartbeats 8000000
set_option maxRecDepth 100000
theorem tc_main (n : Int) (al ac : Option Addr) (cl cc : Nat) (l C : List Int) (w : World) (hL : Ints w al cl l) (hC : Ints w ac cc C) (hT : TabW w) (c1 : ¬ n < 2) (c2 : ¬ 6 < n) (c3 : ¬ 10 < (l.length : Int)) (c4 : schemeE n l = 0) (c5 : ¬ 30 < (C.length : Int)) (c6 : placeE n C = 0) :
  Calls Tryz.prog 3 #[.int .i64 n, .slice al l.length cl, .slice ac C.length cc] w fun r w' => r = .returned (.bool true) ∧ Below w.heap.size w w' := by
 obtain ⟨N, rfl⟩ : ∃ N : Nat, n = N := ⟨n.toNat, by omega⟩
 have d1 : decide ((N : Int) < 2) = false := decide_eq_false c1
 have d2 : decide (6 < (N : Int)) = false := decide_eq_false c2
 have d3 : decide (10 < (l.length : Int)) = false := decide_eq_false c3
 have CSC := fun w h => rCheckScheme_any (N : Int) al cl l w h
 rw [c4] at CSC
 have HSC := hid CSC
 clear CSC
 have d5 : decide (30 < (C.length : Int)) = false := decide_eq_false c5
 have CPL := fun w h => rCheckPlacing_any (N : Int) ac cc C w h
 rw [c6] at CPL
 have HPL := hid CPL
 clear CPL
 have hSO := scheme_zero c4
 have hPO := place_zero c6
 have hr : LetRng N l := by have := hSO.rng; simpa using this
 have hcl : C.length = N := by have := hPO.len; omega
 have hl10 : l.length ≤ 10 := by omega
 have hN2 : 2 ≤ N := by omega
 have hN6 : N ≤ 6 := by omega
 have hpos := hSO.pos
 have hwE : wordE (N : Int) l = 0 := hSO.word
 have hwE4 : wordE (N : Int) (wTimes l 4) = 0 := wordE_fit (by omega) (by omega) (by rw [wTimes_len]; omega) (fun x hx => by have := wTimes_rng hr 4 x hx; omega)
 have hT4 := tc_passes hr hN2 hN6 hl10
 obtain ⟨g1, g2, g3, g4, g5, g6⟩ := tc_whole hr hN2 hN6
 have eC : crossL (N : Int) (wTimes l 4) = (rowL N (wTimes l 4)).2 := by unfold crossL; rw [if_pos hwE4]; rfl
 have eP : passL (N : Int) l = passesOf l.length l := if_pos hwE
 have hxl := tc_clen hr
 have hal : (wTimes l 4).length = 4 * l.length := wTimes_len l 4
 have hov := fun (i k : Nat) (hi : i < 4) (hk : k < l.length) => tc_over hr hi hk
 have hso := sch_ok hSO
 have hrg : ∀ i k : Nat, k < l.length → 0 ≤ atD 0 (rowSeen N l i) (k : Int) ∧ atD 0 (rowSeen N l i) (k : Int) < N := fun i k hk => by
  have h9 := rowAt_rng hso.1 hso.2.2.1 i (atD 0 (rowSeen N l i) (k : Int)) (atD_mem (l := rowSeen N l i) (by rw [rowSeen_len]; exact hk))
  rw [hso.2.1] at h9
  exact h9
 have CSE := fun w h => Seen_any N 4 al cl l w h hSO (by decide) (by decide)
 have CC := fun (a : Option Addr) (c : Nat) w h => Crosses_any (N : Int) a c (wTimes l 4) w h (by rw [wTimes_len]; omega)
 rw [hwE4, eC] at CC
 have CP := fun w h => Passes_any (N : Int) al cl l w h (by omega)
 rw [hwE, eP] at CP
 have CSH := fun (a : Option Addr) (c : Nat) w h => rShortPasses_any a c (passesOf l.length l) w h
 rw [hT4.sh] at CSH
 have CCK := fun (a : Option Addr) (c : Nat) w h => rCheckPasses_any (N : Int) a c (passesOf l.length l) w h (by have := hT4.le; omega) (fun p hp => by have := hT4.sz p hp; omega)
 rw [hT4.e0] at CCK
 have CRP := fun (a : Option Addr) (c : Nat) w h (hT : TabW w) => Repeat_passes (N : Int) a c (passesOf l.length l) w h (by have := hT4.le; omega) (fun p hp => by have := hT4.sz p hp; omega) (fun _ _ => by rw [hT4.en]; exact itoaOk_tab hT _ (by omega) (by omega))
 rw [hT4.rb, hT4.re] at CRP
 have CPE := fun w h => psPeriodX_any N al cl l w h hSO
 have CRE : ∀ w, Ints w al cl l → Ints w ac cc C → Calls Tryz.prog 14 #[.int .i64 N, .slice al l.length cl, .slice ac C.length cc] w fun r w' => ∃ k : Nat, r = .returned (.tuple #[.int .i64 k, .int .i64 0]) ∧ (1 ≤ k ∧ k ≤ 81 ∧ k ∣ perG (row5 (idL N) l) (seenL N l)) ∧ Below w.heap.size w w' := fun w h h2 => by
  refine (psRepeat_any N al ac cl cc l C w h h2 hSO hPO).mono ?_
  rintro r w' ⟨⟨k, rfl, hk⟩, b⟩
  exact ⟨k, rfl, ⟨hk.1, by have := hk.2.1; omega, tc_div hr hk⟩, b⟩
 have CCH := fun w => rCheck_any (periodN (row5 (idL N) l)) w g3 (by omega)
 have CFI := fun w => rFromInt_any (perG (row5 (idL N) l) (seenL N l)) w (by omega)
 have CDV := fun w => rDiv_any (periodN (row5 (idL N) l)) (perG (row5 (idL N) l) (seenL N l)) w (by omega) (by omega) g1
 rw [g6, textQ_one] at CDV
 have CIW := fun w => rIsWhole_any (periodN (row5 (idL N) l) / Nat.gcd (periodN (row5 (idL N) l)) (perG (row5 (idL N) l) (seenL N l))) w (by omega)
 have hPl := hT4.le
 obtain ⟨P, hP⟩ : ∃ P, P = passesOf l.length l := ⟨_, rfl⟩
 rw [← hP] at CP CSH CCK CRP hPl
 obtain ⟨X, hX⟩ : ∃ X, X = (rowL N (wTimes l 4)).2 := ⟨_, rfl⟩
 rw [← hX] at CC hxl
 simp only [← hX] at hov
 obtain ⟨Q, hQ⟩ : ∃ Q, Q = periodN (row5 (idL N) l) / Nat.gcd (periodN (row5 (idL N) l)) (perG (row5 (idL N) l) (seenL N l)) := ⟨_, rfl⟩
 rw [← hQ] at CDV CIW
 obtain ⟨PG, hPG⟩ : ∃ PG, PG = perG (row5 (idL N) l) (seenL N l) := ⟨_, rfl⟩
 rw [← hPG] at CPE CRE CFI CDV g1 g2
 obtain ⟨PN, hPN⟩ : ∃ PN, PN = periodN (row5 (idL N) l) := ⟨_, rfl⟩
 rw [← hPN] at CRP CCH CDV
 obtain ⟨RW, hRW⟩ : ∃ RW : Nat → List Int, RW = rowAt (seenL N l) (row5 (idL N) l) := ⟨_, rfl⟩
 rw [← hRW] at CSE
 have hov2 : ∀ i k : Nat, i < 4 → k < l.length → i * l.length + k < 4 * l.length ∧ ∃ u, atD (0, 0) X ((i * l.length + k : Nat) : Int) = (atD 0 (RW i) (k : Int) + 1, u) := by rw [hRW]; exact hov
 have hrg2 : ∀ i k : Nat, k < l.length → 0 ≤ atD 0 (RW i) (k : Int) ∧ atD 0 (RW i) (k : Int) < N := by rw [hRW]; exact hrg
 have hrl : ∀ i, (RW i).length = l.length := fun i => by rw [hRW]; exact rowSeen_len i
 obtain ⟨WT, hWT⟩ : ∃ WT : Nat → List Int, WT = wTimes l := ⟨_, rfl⟩
 have hw0 : WT 0 = [] := by rw [hWT]; rfl
 have hws : ∀ r, WT (r + 1) = WT r ++ l := fun r => by rw [hWT]; rfl
 have hwl : ∀ r, r < 4 → (WT r).length ≤ 40 := fun r h4 => by rw [hWT, wTimes_len]; have := Nat.mul_le_mul (show r ≤ 4 by omega) hl10; omega
 rw [← hWT] at CC hal
 obtain ⟨AL, hAL⟩ : ∃ AL, AL = WT 4 := ⟨_, rfl⟩
 rw [← hAL] at CC hal
 have HSE := hid CSE; have HCC := hid CC; have HCP := hid CP; have HSH := hid CSH; have HCK := hid CCK; have HRP := hid CRP; have HPE := hid CPE; have HRE := hid CRE; have HCH := hid CCH; have HFI := hid CFI; have HDV := hid CDV; have HIW := hid CIW
 have HOV := hid hov2; have HRG := hid hrg2; have HRL := hid hrl; have HW0 := hid hw0; have HWS := hid hws; have HWL := hid hwl; have HAL := hid hAL; have HLE := hid hal; have HXL := hid hxl; have HPLE := hid hPl
 have dX : ((X.length : Int) != (AL.length : Int)) = false := by rw [hxl, hal]; simp
 have dl : ((l.length : Int) != (l.length : Int)) = false := by simp
 have dg : decide ((PG : Int) < 1) = false := decide_eq_false (by omega)
 clear CSE CC CP CSH CCK CRP CPE CRE CCH CFI CDV CIW hov hov2 hrg hrg2 hrl hw0 hws hwl hAL hal hxl hWT hRW hPN hPG hQ hX hP hso eC eP hT4 hwE4 hwE hr hPO hSO hcl g3 g4 g5 g6 hPl c1 c2 c3 c4 c5 c6
 have HTS := hid thimbleSennit_any
 have hlc := hL.le
 have hlm := hL.max
 have hcc := hC.le
 have hcm := hC.max
 go_enter Tryz.func3, Tryz.ntmps3
 go_wp2_with fail
 refine (HSC.out _ hL).mono ?_
 rintro e w1 ⟨rfl, b1⟩
 replace hL := hL.below b1
 replace hC := hC.below b1
 replace hT := hT.below b1
 have t1 := b1
 clear b1
 go_wp2_with fail
 refine (HPL.out _ hC).mono ?_
 rintro e w2 ⟨rfl, b2⟩
 replace hL := hL.below b2
 replace hC := hC.below b2
 replace hT := hT.below b2
 have t2 := bnext t1 b2
 clear t1 b2
 go_wp2_with fail
 refine (HSE.out _ hL).mono ?_
 rintro e w3 ⟨vS, qs, rfl, hqs, hSS⟩
 have b3 := hSS.b
 replace hL := hL.below b3
 replace hC := hC.below b3
 replace hT := hT.below b3
 have t3 := bnext t2 b3
 clear t2 b3
 have hqH : (qs.map Prod.fst).length = (qs.map Prod.snd).length := by simp
 have hqX : ∀ r ∈ qs.map Prod.snd, r.length = l.length := fun r hr => by
  rw [hqs] at hr
  obtain ⟨i, _, rfl⟩ := List.mem_map.1 hr
  exact HRL.out i
 have hmq : mxQ (qs.map Prod.fst) (qs.map Prod.snd) = qs := zip_back qs
 have hRR : RowsR w3 l.length (qs.map Prod.fst) (qs.map Prod.snd) := SL.rowsR (pre := [_]) (by rw [hmq]; exact hSS) hqH hqX
 obtain ⟨aS, cS, hvS, hS⟩ := hSS.slice 0 rfl
 have hql : (qs.map Prod.fst).length = 4 := by rw [hqH, hqs]; simp
 rw [hql] at hvS
 subst hvS
 rw [hqs] at hRR
 obtain ⟨H, hH⟩ : ∃ H, H = qs.map Prod.fst := ⟨_, rfl⟩
 rw [← hH] at hRR hS hql
 have HHL := hid hql
 clear hSS hqs hmq hqH hqX hH hql
 obtain ⟨wz, hwz⟩ : ∃ wz, wz = w3 := ⟨_, rfl⟩
 rw [← hwz] at hRR hS hL hC hT t3
 rw [← hwz]
 have tz := t3
 clear hwz t3
 have hZ := (SL.nil wz).nilS (α := Int) (e := 3) cIntS
 go_wp2_with fail
 go_loopw [60, 9] (fun iv cv wr => ∃ i : Nat, i ≤ 4 ∧ iv = .int .i64 i ∧ SL wz.heap.size wz wr [pOwn cInt 1 3 cv (WT i)]) (fun iv _ _ => 4 - (intOf iv).toNat)
 case atStart => exact ⟨0, by omega, rfl, by rw [HW0.out]; exact hZ⟩
 case round =>
  clear hZ
  obtain ⟨i, hi, rfl, hSr⟩ := hrel
  by_cases hlt : i < 4
  ·have hLr := hL.below hSr.b
   have htl := HWL.out i hlt
   have hnx := HWS.out i
   obtain ⟨TL, hTL⟩ : ∃ TL, TL = WT i := ⟨_, rfl⟩
   rw [← hTL] at htl hnx hSr
   obtain ⟨aL, cL, rfl, _⟩ := hSr.slice 0 rfl
   have HNX := hid hnx
   clear hnx hTL
   go_wp2_with ((with_reducible refine wpList_appL 0 E_ints wU wU (hSr) wU (hLr) (rfl) cIntO (by first | omega | (simp; omega)) (by first | omega | (simp; omega)) ?_); intro v3 w3 hS3)
   have hS6 := hS3
   simp only [List.set_cons_zero] at hS6
   rw [← HNX.out] at hS6
   exact ⟨⟨i + 1, by omega, by go_num, hS6⟩, by simp [intOf]; omega⟩
  ·have hii : i = 4 := by omega
   rw [hii, ← HAL.out] at hSr
   subst hii
   obtain ⟨aA, cA, rfl, _⟩ := hSr.slice 0 rfl
   have hA := hSr.rd 0 rfl
   have hb := hSr.b
   clear hlt hSr hi
   have hRR2 := hRR.below hb
   have hS2 := hS.below hb
   have hL2 := hL.below hb
   have hC2 := hC.below hb
   have hT2 := hT.below hb
   have t50 := bnext tz hb
   clear hRR hS hL hC hT hb tz
   have hRR := hRR2; have hS := hS2; have hL := hL2; have hC := hC2; have hT := hT2
   clear hRR2 hS2 hL2 hC2 hT2
   obtain ⟨w50, hw50⟩ : ∃ w50, w50 = wr := ⟨_, rfl⟩
   rw [← hw50] at t50 hRR hS hL hC hT hA
   rw [← hw50]
   clear hw50
   go_wp2_with fail
   refine (HCC.out aA cA _ hA).mono ?_
   rintro e w51 ⟨aX, cX, rfl, hX, _, b51⟩
   replace hRR := hRR.below b51
   replace hS := hS.below b51
   replace hL := hL.below b51
   replace hC := hC.below b51
   replace hT := hT.below b51
   replace hA := hA.below b51
   have t51 := bnext t50 b51
   clear t50 b51
   clear hA
   go_wp2_with fail
   refine (HCP.out _ hL).mono ?_
   rintro e w52 ⟨aP, cP, rfl, hP, _, b52⟩
   replace hRR := hRR.below b52
   replace hS := hS.below b52
   replace hL := hL.below b52
   replace hC := hC.below b52
   replace hT := hT.below b52
   replace hX := hX.below b52
   have t52 := bnext t51 b52
   clear t51 b52
   obtain ⟨wy, hwy⟩ : ∃ wy, wy = w52 := ⟨_, rfl⟩
   rw [← hwy] at hRR hS hL hC hT hX hP t52
   rw [← hwy]
   have ty := t52
   clear hwy t52
   go_wp2_with fail
   go_loopw [102, 14, 15] (fun iv _ _ wr => ∃ i : Nat, i ≤ 4 ∧ iv = .int .i64 i ∧ Below wy.heap.size wy wr) (fun iv _ _ _ => 4 - (intOf iv).toNat)
   case atStart => exact ⟨0, by omega, rfl, Below.refl _ _⟩
   case round =>
    obtain ⟨i, hi, rfl, hbr⟩ := hrel
    by_cases hlt : i < 4
    ·have hSr := hS.below hbr
     obtain ⟨xa, xc, hx1, hx2⟩ := (hRR.below hbr).2 i (by simp; omega)
     have hrow : nth ((List.range 4).map RW) i = RW i := by simp [nth, atD, hlt]
     rw [hrow] at hx2
     have HX1 := hid hx1
     have hiH : (i : Int) < (H.length : Int) := by rw [HHL.out]; omega
     clear hrow hx1
     go_wp2_with ((with_reducible refine wpList_idxN _ ((none, 0, 0) : SlH) E_sls F_sl cSl1 wU wU (hSr) (HHL.out) oD oD (fun _ => wU) (fun _ => ?_)); rw [HX1.out])
     go_loopw [115, 15] (fun iv _ wq => ∃ k : Nat, k ≤ l.length ∧ iv = .int .i64 k ∧ Below wr.heap.size wr wq) (fun iv _ _ => l.length - (intOf iv).toNat)
     case atStart => exact ⟨0, by omega, rfl, Below.refl _ _⟩
     case round =>
      obtain ⟨k, hk, rfl, hbq⟩ := hrel
      by_cases hkl : k < l.length
      ·have hSq := hSr.below hbq
       have hxq := hx2.below hbq
       have hXq := (hX.below hbr).below hbq
       obtain ⟨hj, u, hu⟩ := HOV.out i k hlt hkl
       obtain ⟨r0, r1⟩ := HRG.out i k hkl
       have hrl := HRL.out i
       obtain ⟨row, hrow⟩ : ∃ r, r = RW i := ⟨_, rfl⟩
       rw [← hrow] at hu r0 r1 hrl hxq
       obtain ⟨sv, hsv⟩ : ∃ s, s = atD 0 row (k : Int) := ⟨_, rfl⟩
       rw [← hsv] at hu r0 r1
       obtain ⟨ov, hov⟩ : ∃ o, o = sv + 1 := ⟨_, rfl⟩
       rw [← hov] at hu
       have hws : IntKind.i64.wrap (sv + 1) = ov := by rw [hov]; exact IntWalk.i64_in _ (by omega)
       obtain ⟨im, him⟩ : ∃ im : Int, im = ((i * l.length : Nat) : Int) := ⟨_, rfl⟩
       obtain ⟨jj, hjj⟩ : ∃ jj : Int, jj = ((i * l.length + k : Nat) : Int) := ⟨_, rfl⟩
       have hil : i * l.length ≤ 40 := by omega
       have hwm : IntKind.i64.wrap ((i : Int) * (l.length : Int)) = im := by rw [him, ← Int.natCast_mul]; exact IntWalk.i64_in _ (by omega)
       have hwj : IntKind.i64.wrap (im + (k : Int)) = jj := by rw [him, hjj, ← Int.natCast_add]; exact IntWalk.i64_in _ (by omega)
       have hjj0 : 0 ≤ jj := by omega
       have hjj1 : jj < (X.length : Int) := by rw [HXL.out]; omega
       rw [← hjj] at hu
       have hv0 : (cPair (atD (0, 0) X jj)).cells.toList[0]? = some (.int .i64 ov) := by rw [hu]; rfl
       have dov : (ov != ov) = false := by simp
       have HSV := hid hsv; have HRWL := hid hrl
       have hkR : (k : Int) < (row.length : Int) := by rw [hrl]; omega
       clear hu hsv hrow hov him hjj hrl hil hj r0 r1
       go_wp2_with fail
       refine wp_region_q kR kR ?_
       repeat (first | ((with_reducible refine wpB_fldG (0, 0) (.int .i64 ov) E_cross F_int (fun b o w' => by go_simp) wU rfl wU hXq hjj0 hjj1 hv0 (fun _ => wU) (fun _ _ => wU) wU (fun _ => wU) (fun _ _ => wU) (fun _ _ => ?_)); (try simp only [Act.put, pA, pB, pC])) | (((with_reducible refine wpB_idx2 ((none, 0, 0) : SlH) E_sls F_sl cSl1 wU (HHL.out) wU (hSq) oD oD (fun _ => wU) (fun _ => ?_)); (try simp only [Act.put, pA, pB, pC]); (try simp only [cInt])); rw [HX1.out]) | (((with_reducible refine wpB_idx2 0 E_ints F_int cInt1 wU (HRWL.out) wU (hxq) oD oD (fun _ => wU) (fun _ => ?_)); (try simp only [Act.put, pA, pB, pC]); (try simp only [cInt])); rw [← HSV.out]) | (((refine wpQ_oneG ?_ wU (fun w' => ?_) ?_); rotate_left; (go_simp; rfl); (try simp only [Act.put, pA, pB, pC])); first | rw [hwm] | rw [hwj] | rw [hws] | rw [dov] | skip) |  ((with_reducible refine wpB_load (by first | exact F_int | exact F_u64s) wU wU (by assumption) wU ?_); (try simp only [Act.put, pA, pB, pC])) | ((with_reducible refine wpB_loadS (n := 2) (us := #[_, _]) A_int kR wU wU (by assumption) wU wU ?_); (try simp only [Act.put, pA, pB, pC])) | ((with_reducible refine wpB_loadS (n := 4) (us := #[_, _, _, _]) A_frac kR wU wU (by assumption) wU wU ?_); (try simp only [Act.put, pA, pB, pC])) | ((refine wpQ_oneG ?_ wU (fun w' => ?_) ?_); rotate_left; (go_simp; rfl); (try simp only [Act.put, pA, pB, pC])))
       refine wpQuiet_nil ?_
       intro wx hbx
       clear hSq hxq hXq
       go_wp2_with fail
       exact ⟨⟨k + 1, by omega, by go_num, bnext hbq hbx⟩, by simp [intOf]; omega⟩
      ·have hkn : ¬ ((k : Int) < (l.length : Int)) := by omega
       have hb3 := bnext hbr hbq
       clear hkl hk hSr hx2
       go_wp2_with fail
       exact ⟨⟨i + 1, by omega, by go_num, hb3⟩, by simp [intOf]; omega⟩
    ·have hii : i = 4 := by omega
     subst hii
     have hL2 := hL.below hbr
     have hC2 := hC.below hbr
     have hT2 := hT.below hbr
     have hP2 := hP.below hbr
     have t60 := bnext ty hbr
     clear hRR hS hL hC hT hP hX hbr ty hi hlt
     have hL := hL2; have hC := hC2; have hT := hT2; have hP := hP2
     clear hL2 hC2 hT2 hP2
     obtain ⟨w60, hw60⟩ : ∃ w60, w60 = wr := ⟨_, rfl⟩
     rw [← hw60] at t60 hL hC hT hP
     rw [← hw60]
     clear hw60
     have hPle := HPLE.out
     have hPc := hP.le
     have hPm := hP.max
     go_wp2_with fail
     go_loopw [16, 18, 141] (fun v _ i wr => ∃ k : Nat, k ≤ P.length ∧ i = .int .i64 k ∧ Own cPass 3 w60.heap.size 40 wr v (P.take k) ∧ Below w60.heap.size w60 wr) (fun _ _ i _ => P.length - (intOf i).toNat)
     case atStart => exact ⟨0, by omega, rfl, own_nil cPassS, Below.refl _ _⟩
     case round =>
      obtain ⟨k, hk, rfl, hO, hbr⟩ := hrel
      have hSr := hP.below hbr
      have hbs := hbr.size
      by_cases hlt : k < P.length
      ·have hs := take_step pass0 P k hlt
       have HS := hid hs
       have htl : (P.take k).length ≤ 10 := by rw [List.length_take]; omega
       obtain ⟨TP, hTP⟩ : ∃ TP, TP = P.take k := ⟨_, rfl⟩
       rw [← hTP] at hO htl
       have HTP := hid hTP
       clear hs hTP
       go_wp2_with (first | (with_reducible refine wpList_idxS _ pass0 E_passes F_pass cPass1 wU wU (hSr) oD oD (fun _ => wU) (fun _ => ?_)) | ((with_reducible refine wpList_app (l := TP) (ys := [(atD pass0 P k)]) E_rpasses wU wU (((hO.alloc _)).alloc _) (reps_new1 cPassS ((atD pass0 P k)) _ _ (by simp) rfl) cPassO (by simp; omega) (by first | omega | (simp; omega)) (by simp; omega) ?_); intro v3 w3 ho3 hg3 hat3))
       refine ⟨?_, by simp [intOf]; omega⟩
       repeat apply Exists.intro
       refine ⟨?_, rfl⟩
       exact ⟨k + 1, by omega, by go_num, by rw [HS.out, ← HTP.out]; exact ho3, below_own (bal (bal hbr _) _) hg3 ((hO.alloc _).alloc _) (Nat.le_refl _)⟩
      ·have hkk : k = P.length := by omega
       subst hkk
       rw [List.take_length] at hO
       obtain ⟨aQ, cQ, rfl, hQ, _, _⟩ := hO.reps
       have hL2 := hL.below hbr
       have hC2 := hC.below hbr
       have hT2 := hT.below hbr
       have t70 := bnext t60 hbr
       have hP2 := hSr
       clear hO hlt hk hL hC hT hP t60 hbr hbs hSr
       have hL := hL2; have hC := hC2; have hT := hT2; have hP := hP2
       clear hL2 hC2 hT2 hP2
       obtain ⟨w70, hw70⟩ : ∃ w70, w70 = wr := ⟨_, rfl⟩
       rw [← hw70] at t70 hL hC hT hP hQ
       rw [← hw70]
       clear hw70
       go_wp2_with fail
       refine (HSH.out aQ cQ _ hQ).mono ?_
       rintro e w71 ⟨rfl, b71⟩
       replace hL := hL.below b71
       replace hC := hC.below b71
       replace hT := hT.below b71
       replace hP := hP.below b71
       replace hQ := hQ.below b71
       have t71 := bnext t70 b71
       clear t70 b71
       go_wp2_with fail
       refine (HCK.out aQ cQ _ hQ).mono ?_
       rintro e w72 ⟨rfl, b72⟩
       replace hL := hL.below b72
       replace hC := hC.below b72
       replace hT := hT.below b72
       replace hP := hP.below b72
       replace hQ := hQ.below b72
       have t72 := bnext t71 b72
       clear t71 b72
       clear hQ
       go_wp2_with fail
       refine (HRP.out aP cP _ hP hT).mono ?_
       rintro e w73 ⟨rfl, b73⟩
       replace hL := hL.below b73
       replace hC := hC.below b73
       replace hT := hT.below b73
       replace hP := hP.below b73
       have t73 := bnext t72 b73
       clear t72 b73
       clear hP hT
       go_wp2_with fail
       refine (HPE.out _ hL).mono ?_
       rintro e w74 ⟨rfl, b74⟩
       replace hL := hL.below b74
       replace hC := hC.below b74
       have t74 := bnext t73 b74
       clear t73 b74
       go_wp2_with fail
       refine (HRE.out _ hL hC).mono ?_
       rintro e w75 ⟨kr, rfl, ⟨k1, k81, kdv⟩, b75⟩
       replace hL := hL.below b75
       replace hC := hC.below b75
       have t75 := bnext t74 b75
       clear t74 b75
       clear hL hC
       have dk : decide ((kr : Int) < 1) = false := decide_eq_false (by omega)
       have hkm : PG % kr = 0 := Nat.mod_eq_zero_of_dvd kdv
       have hkr0 : ¬ kr = 0 := by omega
       have hkz : ((kr : Int) == 0) = false := beq_eq_false_iff_ne.2 (by omega)
       have hrm : (PG : Int).tmod (kr : Int) = 0 := by rw [Int.tmod_eq_emod_of_nonneg (by omega)]; omega
       clear hkm kdv
       go_wp2_with fail
       refine (HCH.out _).mono ?_
       rintro e w76 ⟨rfl, b76⟩
       have t76 := bnext t75 b76
       clear t75 b76
       go_wp2_with fail
       refine (HFI.out _).mono ?_
       rintro e w77 ⟨rfl, b77⟩
       have t77 := bnext t76 b77
       clear t76 b77
       go_wp2_with fail
       refine (HDV.out _).mono ?_
       rintro e w78 ⟨rfl, b78⟩
       have t78 := bnext t77 b78
       clear t77 b78
       go_wp2_with fail
       refine (HIW.out _).mono ?_
       rintro e w79 ⟨rfl, b79⟩
       have t79 := bnext t78 b79
       clear t78 b79
       go_wp2_with fail
       refine (HTS.out _).mono ?_
       rintro e w80 ⟨rfl, b80⟩
       have t80 := bnext t79 b80
       clear t79 b80
       go_wp2_with fail
       go_ret
       exact ⟨rfl, t80⟩
end Go.Proofs.YtglpfpdomnllkaaGreatDoor

namespace Go.Proofs.YtglpfpdomnllkaaGreatDoor
open Go.RowKit
set_option maxHeartbeats 8000000
set_option maxRecDepth 100000
theorem TopThimbleCrossed_any (n : Int) (al ac : Option Addr) (cl cc : Nat) (l C : List Int) (w : World) (hL : Ints w al cl l) (hC : Ints w ac cc C) (hT : TabW w) :
  Calls Tryz.prog 3 #[.int .i64 n, .slice al l.length cl, .slice ac C.length cc] w fun r w' => r = .returned (.bool true) ∧ Below w.heap.size w w' := by
 refine (Classical.em (n < 2)).elim (fun c1 => tc_out1 n al ac cl cc l C w hL hC  c1) (fun c1 => ?_)
 replace c1 : ¬ n < 2 := by first | exact c1 | (exact Classical.not_not.1 c1) | (simpa using c1)
 refine (Classical.em (6 < n)).elim (fun c2 => tc_out2 n al ac cl cc l C w hL hC c1 c2) (fun c2 => ?_)
 replace c2 : ¬ 6 < n := by first | exact c2 | (exact Classical.not_not.1 c2) | (simpa using c2)
 refine (Classical.em (10 < (l.length : Int))).elim (fun c3 => tc_out3 n al ac cl cc l C w hL hC c1 c2 c3) (fun c3 => ?_)
 replace c3 : ¬ 10 < (l.length : Int) := by first | exact c3 | (exact Classical.not_not.1 c3) | (simpa using c3)
 refine (Classical.em (schemeE n l ≠ 0)).elim (fun c4 => tc_out4 n al ac cl cc l C w hL hC c1 c2 c3 c4) (fun c4 => ?_)
 replace c4 : schemeE n l = 0 := by first | exact c4 | (exact Classical.not_not.1 c4) | (simpa using c4)
 refine (Classical.em (30 < (C.length : Int))).elim (fun c5 => tc_out5 n al ac cl cc l C w hL hC c1 c2 c3 c4 c5) (fun c5 => ?_)
 replace c5 : ¬ 30 < (C.length : Int) := by first | exact c5 | (exact Classical.not_not.1 c5) | (simpa using c5)
 refine (Classical.em (placeE n C ≠ 0)).elim (fun c6 => tc_out6 n al ac cl cc l C w hL hC c1 c2 c3 c4 c5 c6) (fun c6 => ?_)
 replace c6 : placeE n C = 0 := by first | exact c6 | (exact Classical.not_not.1 c6) | (simpa using c6)
 exact tc_main n al ac cl cc l C w hL hC hT c1 c2 c3 c4 c5 c6
end Go.Proofs.YtglpfpdomnllkaaGreatDoor
