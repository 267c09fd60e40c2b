/- Contracts and plain facts that the claim uses (Gb1 Gb). Conditions: as each one states. -/
import Derived.Test.YtngpopalpofhgaaGreatDoorProg
import Derived.WalkKit
import Derived.WalkSpells
import Derived.Maps.AppendAt
import Derived.Deep.Quiet
import Derived.Maps.Own
import Derived.Maps.OwnSet
import Derived.Maps.Views
import Derived.WalkLawsBesides
import Derived.Laws.EntriesVeiled
import Derived.Deep.QuietTactic
import Derived.BigQuiet
import Derived.Deep.RegionHeld3
import Derived.Deep.AppendLies
import Derived.Deep.RegionHeldLaw
import Derived.Deep.RegionLaw
import Derived.RangeFuncNested
import Derived.RangeFuncBound
import Derived.RangeFuncCalls
import Derived.RangeFuncLeaves
import Derived.RangeFuncFrom
import Derived.Shelf.Abstract
import Derived.Shelf.RegionOpen
import Derived.OwnWalkIn
import Derived.TacticsInMore
import Derived.LoopNIn
import Derived.LoopIn
import Derived.Shelf.Strings.Trim
import Derived.Shelf.Strings.SlTrimAscii
import Derived.Shelf.Strings.Repeat
import Derived.Shelf.Strings.OnBuilder
import Derived.Shelf.Strconv.Itoa1
import Derived.Shelf.Strconv.Itoa3
import Derived.Shelf.LaysM
import Derived.Ground.Names2Prog
import Derived.Lib.OthersKept
import Derived.StillTail
import Derived.Laws.Tables
import Derived.IntWalk
import Derived.Laws.CopyOwn
import Derived.BigRegion
import Derived.ChangeAlike
import Derived.Shelf.Bits.Mul64
import Derived.Lib.ItoaLen
import Derived.Lib.ItoaMem
import Derived.Sort.LoopGhostIn
import Derived.Maps.RangeWalk
import Derived.Maps.Ext
import Derived.Deep.LoopGhost
import Derived.Laws.IdiomStrings
import Derived.Sort.QuietThIn
import Derived.Lib.Split
import Derived.Lib.AtoiAll
import Derived.Lib.AppendIntMem
import Derived.Lib.SmallJoins
import Derived.LaidSub
import Derived.Lib.LaidTab
import Derived.Lib.AtoiErrMem
import Derived.Stop.LaidErr
import Derived.ReadAgain
import Derived.ChangeSlices
import Derived.OpenShut
import Derived.ProofKit
import Derived.Deep.DeepHandedRow
import Derived.Deep.SlicePairs
import Derived.Lib.AppendZeros
import Derived.Test.YtngpopalpofhgaaGreatDoorXz01
import Derived.Test.YtngpopalpofhgaaGreatDoorXz02
import Derived.Test.YtngpopalpofhgaaGreatDoorXz03
import Derived.Test.YtngpopalpofhgaaGreatDoorXz04
import Derived.Test.YtngpopalpofhgaaGreatDoorXz05
import Derived.Test.YtngpopalpofhgaaGreatDoorXz06
import Derived.Test.YtngpopalpofhgaaGreatDoorXz07
import Derived.Test.YtngpopalpofhgaaGreatDoorXz08
import Derived.Test.YtngpopalpofhgaaGreatDoorXz09
import Derived.Test.YtngpopalpofhgaaGreatDoorY7201
import Derived.Test.YtngpopalpofhgaaGreatDoorY7202
import Derived.Test.YtngpopalpofhgaaGreatDoorY7203
import Derived.Test.YtngpopalpofhgaaGreatDoorY7204
set_option linter.all false

namespace Go.Proofs.YtngpopalpofhgaaGreatDoor
open Go.RowKit
set_option maxHeartbeats 8000000
set_option maxRecDepth 100000
theorem gPasses_any (a : Option Addr) (cap : Nat) (l : List PassV) (w : World) (hS : PassesR w a cap l) (hl : l.length ≤ 1048576) :
  Calls Tryz.prog 18 #[.slice a l.length cap] w fun r w' => ∃ v, r = .returned v ∧ Own cPass 3 w.heap.size 57 w' v l ∧ Below w.heap.size w w' := by
 have hcap := hS.le
 have hm := hS.max
 go_enter Tryz.func18, Tryz.ntmps18
 go_wp2
 go_loopw [3, 5, 8] (fun v _ i wr => ∃ k : Nat, k ≤ l.length ∧ i = .int .i64 k ∧ Own cPass 3 w.heap.size 57 wr v (l.take k) ∧ Below w.heap.size w wr) (fun _ _ i _ => l.length - (intOf i).toNat)
 case atStart => exact ⟨0, by omega, rfl, own_nil cPassS, Below.refl _ _⟩
 case round =>
  obtain ⟨k, hk, rfl, hO, hbr⟩ := hrel
  have hSr := hS.below hbr
  have hbs := hbr.size
  have hle : (l.take k).length ≤ 1048576 := by simp; omega
  by_cases hlt : k < l.length
  ·have hs := take_step pass0 l k hlt
   have HS := hid hs; clear hs
   go_wp2_with (first | (with_reducible refine wpList_idxS _ pass0 E_rpasses F_rpass cPass1 wU wU (hSr) oD oD (fun _ => wU) (fun _ => ?_)) | ((with_reducible refine wpList_app (l := (l.take k)) (ys := [(atD pass0 l k)]) E_passes wU wU (((hO.alloc _)).alloc _) (reps_new1 cPassS ((atD pass0 l k)) _ _ (by simp) rfl) cPassO (by simp; omega) (by first | omega | (simp; omega)) (by simp; omega) ?_); intro v3 w3 ho3 hg3 hat3))
   exact ⟨⟨k + 1, by omega, by go_num, by rw [HS.out]; exact ho3, below_own (bal (bal hbr _) _) hg3 ((hO.alloc _).alloc _) (Nat.le_refl _)⟩, by simp [intOf]; omega⟩
  ·have : k = l.length := by omega
   subst this
   rw [List.take_length] at hO hle
   go_wp2_with fail
   go_ret
   exact ⟨_, rfl, hO, hbr⟩
theorem gl_len {n : Int} (hn : n ≤ 12) : ∀ (l : List PassV), (∀ p ∈ l, passE n p = 0) → (lettersAll l).length ≤ 11 * l.length
 | [], _ => by simp [lettersAll]
 | p :: r, h => by
   have h1 := (passE_small hn (h p (by simp))).2.2.1
   have h2 := gl_len hn r (fun q hq => h q (by simp [hq]))
   unfold lettersAll at h2 ⊢
   rw [List.flatMap_cons, List.length_append, lettersL_len, List.length_cons]
   omega
theorem yieldsK_sl {P : Program} {ops : Array Oper} {C : World → Prop} {a : Act} {d : Option Tmp} {ty t : TypeId} {p : String} {af : Array Edge} {x : Operand} {lo hi : Option Operand} {v xv : Value} {lv hv : Option Value} (hx : a.eval x = xv) (hl : lo.map a.eval = lv) (hh : hi.map a.eval = hv) (hr : ∀ w, C w → (Instr.sliceAt t xv lv hv none).run P w = .ok v w)
  (hg : Region.wanted (⟨d, .slice t x lo hi none, ty, p, af, none⟩ : Oper) (yielded ops a.tmps) = true) : YieldsK P ops C ⟨d, .slice t x lo hi none, ty, p, af, none⟩ v a := by
 refine .inl ⟨hg, fun w hC => ?_⟩
 simp [execOp, hx, hl, hh, hr w hC, Result.andThen]
theorem cut_hi {a : Option Addr} {n cp j : Nat} (hj : j ≤ n) (hn : n ≤ cp) : ∃ a', ∀ (V : World) (l : List Int), l.length = n → Ints V a cp l → (Instr.sliceAt 22 (.slice a n cp) none (some (.int .i64 j)) none).run Tryz.prog V = .ok (.slice a' j cp) V ∧ Ints V a' cp (l.take j) := by
 refine ⟨if cp = 0 then a else a.map (·.add (0 * 1)), fun V l hl hL => ?_⟩
 subst hl
 obtain ⟨inf, hinf, _, hs, _⟩ := info_parts E_ints.inf
 have hrun : (Instr.sliceAt 22 (.slice a l.length cp) none (some (.int .i64 j)) none).run Tryz.prog V = .ok (.slice (if cp = 0 then a else a.map (·.add (0 * 1))) (j - 0) (cp - 0)) V := by
  have hb := run_bounds (P := Tryz.prog) (w := V) (n := l.length) (cap := cp) (lo := none) (hi := some (.int .i64 j)) (i := 0) (j := j) (.inr ⟨rfl, rfl⟩) (.inl rfl) (by omega) (by omega)
  simp [Instr.sliceAt, run_underlying E_ints.und, Instr.slice, hb, sizeOf, typeInfo, hinf, hs]
 obtain ⟨a', h1, h2, _⟩ := run_cut (P := Tryz.prog) E_ints hL none (some (.int .i64 j)) 0 j (.inr ⟨rfl, rfl⟩) (.inl rfl) (by omega) hj
 rw [hrun] at h1
 have e : (if cp = 0 then a else a.map (·.add (0 * 1))) = a' := by injection h1 with e1; injection e1
 rw [← e] at h2
 exact ⟨hrun, h2⟩
theorem cut_lo {a : Option Addr} {n cp i : Nat} (hi : i ≤ n) (hn : n ≤ cp) : ∃ a', ∀ (V : World) (l : List Int), l.length = n → Ints V a cp l → (Instr.sliceAt 22 (.slice a n cp) (some (.int .i64 i)) none none).run Tryz.prog V = .ok (.slice a' (n - i) (cp - i)) V ∧ Ints V a' (cp - i) (l.drop i) := by
 refine ⟨if cp = i then a else a.map (·.add (i * 1)), fun V l hl hL => ?_⟩
 subst hl
 obtain ⟨inf, hinf, _, hs, _⟩ := info_parts E_ints.inf
 have hrun : (Instr.sliceAt 22 (.slice a l.length cp) (some (.int .i64 i)) none none).run Tryz.prog V = .ok (.slice (if cp = i then a else a.map (·.add (i * 1))) (l.length - i) (cp - i)) V := by
  have hb := run_bounds (P := Tryz.prog) (w := V) (n := l.length) (cap := cp) (lo := some (.int .i64 i)) (hi := none) (i := i) (j := l.length) (.inl rfl) (.inr ⟨rfl, rfl⟩) hi hn
  simp [Instr.sliceAt, run_underlying E_ints.und, Instr.slice, hb, sizeOf, typeInfo, hinf, hs]
 obtain ⟨a', h1, h2, _⟩ := run_cut (P := Tryz.prog) E_ints hL (some (.int .i64 i)) none i l.length (.inl rfl) (.inr ⟨rfl, rfl⟩) hi (Nat.le_refl _)
 rw [hrun] at h1
 have e : (if cp = i then a else a.map (·.add (i * 1))) = a' := by injection h1 with e1; injection e1
 rw [List.take_length, ← e] at h2
 exact ⟨hrun, h2⟩
def rowK (N : Nat) (l : List PassV) (j : Nat) : List Int := (l.take j).foldl (fun st p => mvL st p.f.toNat p.t.toNat) (idL N)
theorem rowK_step {N : Nat} {l : List PassV} {j : Nat} (h : j < l.length) : rowK N l (j + 1) = mvL (rowK N l j) (atD pass0 l j).f.toNat (atD pass0 l j).t.toNat := by
 unfold rowK
 rw [take_step pass0 l j h, List.foldl_append]
 rfl
theorem rowK_len {N : Nat} {l : List PassV} (h : ∀ p ∈ l, passE (N : Int) p = 0) (j : Nat) : (rowK N l j).length = N := by
 unfold rowK
 rw [rowPs_eq _ _ (fun p hp => h p (List.mem_of_mem_take hp)) (idL_len N), row5_len, idL_len]
theorem rowK_full {N : Nat} {l : List PassV} : rowK N l l.length = rowPs N l := by unfold rowK rowPs; rw [List.take_length]
theorem gb_main (n : Int) (ad : Option Addr) (cap : Nat) (l : List PassV) (w : World) (hS : PassesR w ad cap l) (hn6 : n ≤ 6) (hl6 : l.length ≤ 6) (hsh : shortPB l = true) (hE : passesE n l = 0) :
  Calls Tryz.prog 4 #[.int .i64 n, .slice ad l.length cap] w fun r w' => r = .returned (.bool true) ∧ Below w.heap.size w w' := by
 obtain ⟨hn1, hn2, hl1000, hall⟩ := passesE_zero hE
 obtain ⟨N, rfl⟩ : ∃ N : Nat, n = N := ⟨n.toNat, by omega⟩
 obtain ⟨hWE, hWl⟩ := lettersAll_word hE (by omega)
 have hrng := word_rng hWE
 obtain ⟨eB, eF, eR⟩ := back_form hall hrng
 have hall2 := backL_ok hall
 have hbl := backL_len l
 have hE2 : passesE (N : Int) (backL l) = 0 := passesE_ok (by omega) (by omega) (by omega) hall2
 obtain ⟨hWE2, hWl2⟩ := lettersAll_word hE2 (by omega)
 have hq1 := gl_len (n := (N : Int)) (by omega) l hall
 have hq2 := gl_len (n := (N : Int)) (by omega) (backL l) hall2
 have hway : ∀ p ∈ l, p.way.size ≤ 1000 := fun p hp => by
  obtain ⟨q1, q2, q3, q4, q5, q6, -⟩ := passE_zero (hall p hp)
  unfold distP at q6
  split at q6 <;> omega
 have hway2 : ∀ p ∈ backL l, p.way.size ≤ 1000 := fun p hp => by
  obtain ⟨q1, q2, q3, q4, q5, q6, -⟩ := passE_zero (hall2 p hp)
  unfold distP at q6
  split at q6 <;> omega
 have eV : wordErr (N : Int) l = 0 := by unfold wordErr; rw [if_neg (fun h => h hE), if_neg (by omega)]
 have eW : wordL (N : Int) l = lettersAll l := by unfold wordL; rw [if_pos eV]
 have eV2 : wordErr (N : Int) (backL l) = 0 := by unfold wordErr; rw [if_neg (fun h => h hE2), if_neg (by omega)]
 have eW2 : wordL (N : Int) (backL l) = lettersAll (backL l) := by unfold wordL; rw [if_pos eV2]
 have hJE : wordE (N : Int) (lettersAll l ++ lettersAll (backL l)) = 0 := wordE_fit (by omega) (by omega) (by rw [List.length_append]; omega) (fun x hx => by
  rcases List.mem_append.1 hx with hx | hx
  ·exact hrng x hx
  ·exact word_rng hWE2 x hx)
 have h0E : wordE (N : Int) [] = 0 := wordE_fit (by omega) (by omega) (by simp) (fun x hx => by cases hx)
 have eF0 : formW N [] = (0, []) := formW_eq (Y := []) (fun x hx => by cases hx) ⟨.refl _, fun Y hY => by cases hY⟩
 have hperm := fun i (hi : i < N) => perm_rowPs hall hrng hi
 have CS := fun w (hS : PassesR w ad cap l) => rShortPasses_any ad cap l w hS
 have CC := fun w (hS : PassesR w ad cap l) => rCheckPasses_any (N : Int) ad cap l w hS (by omega) (fun p hp => by have := hway p hp; omega)
 have CG := fun w (hS : PassesR w ad cap l) => gPasses_any ad cap l w hS (by omega)
 have CW := fun a c w (hS : PassesR w a c l) => Word_any (N : Int) a c l w hS (by omega) (fun p hp => by have := hway p hp; omega)
 have CB := fun a c w (hS : PassesR w a c l) => Back_any (N : Int) a c l w hS (by omega) (fun p hp => by have := hway p hp; omega)
 have CV := fun a c w (hS : PassesR w a c (backL l)) => Word_any (N : Int) a c (backL l) w hS (by omega) (fun p hp => by have := hway2 p hp; omega)
 have CI := fun a c w (hS : Ints w a c (lettersAll l)) => Inverse_any N a c (lettersAll l) w hS hWE
 have CK := fun a c a2 c2 w (hS : Ints w a c (lettersAll l)) (hM : Ints w a2 c2 (lettersAll (backL l))) => bConcat_any N a a2 c c2 _ _ w hS hM hWE hWE2 (by omega)
 have CE := fun a c w (hS : Ints w a c (lettersAll l ++ lettersAll (backL l))) => Equal_any N a none c 0 _ [] w hS (ints_nil w) hJE h0E
 have CR := fun a c w (hS : Ints w a c (lettersAll l ++ lettersAll (backL l))) => Reduce_any N a c _ w hS hJE
 have CP := fun a c w (hS : Ints w a c (lettersAll l)) => bPerm_any N a c _ w hS hWE
 rw [hsh] at CS
 rw [hE] at CC
 rw [eV, eW] at CW
 rw [if_pos hE, hE] at CB
 rw [eV2, eW2] at CV
 rw [← eB] at CI
 rw [eF, eF0, decide_eq_true rfl] at CE
 rw [eR, List.reverse_nil] at CR
 have hPl := (permB_ok hWE).2
 have hRS := fun j (hj : j < l.length) => rowK_step (N := N) hj
 have hRL := fun j => rowK_len hall j
 have hRF := rowK_full (N := N) (l := l)
 have hPS := fun (j : Nat) (hj : j < l.length) => (show ∃ f t : Nat, (atD pass0 l j).f = (f : Int) + 1 ∧ (atD pass0 l j).t = (t : Int) + 1 ∧ f < N ∧ t < N from by
  obtain ⟨q1, q2, q3, q4, -⟩ := passE_zero (hall _ (show atD pass0 l (j : Int) ∈ l by simp [atD, hj]))
  exact ⟨((atD pass0 l j).f - 1).toNat, ((atD pass0 l j).t - 1).toNat, by omega, by omega, by omega, by omega⟩)
 have HRS := hid hRS; have HRL := hid hRL; have HRF := hid hRF; have HPS := hid hPS
 clear hRS hRL hRF hPS
 obtain ⟨L, hL⟩ : ∃ L, L = lettersAll l := ⟨_, rfl⟩
 obtain ⟨V, hV⟩ : ∃ V, V = lettersAll (backL l) := ⟨_, rfl⟩
 obtain ⟨Bk, hBk⟩ : ∃ Bk, Bk = backL l := ⟨_, rfl⟩
 rw [← hL] at CW CI CK CE CR CP hperm hPl hWl
 rw [← hV] at CV CI CK CE CR hWl2
 rw [← hBk] at CB CV
 obtain ⟨J, hJ⟩ : ∃ J, J = L ++ V := ⟨_, rfl⟩
 rw [← hJ] at CK CE CR
 obtain ⟨P, hP⟩ : ∃ P, P = permB N L := ⟨_, rfl⟩
 rw [← hP] at CP hperm hPl
 have HCS := hid CS; have HCC := hid CC; have HCG := hid CG; have HCW := hid CW; have HCB := hid CB; have HCV := hid CV; have HCI := hid CI; have HCK := hid CK; have HCE := hid CE; have HCR := hid CR; have HCP := hid CP
 have HPM := hid hperm; have HPL := hid hPl
 have HGP := hid grommetPlaits_any
 have hVl : V.length ≤ 1000 := by omega
 have hcap := hS.le
 have hmx := hS.max
 have d6 : decide (6 < (N : Int)) = false := decide_eq_false (by omega)
 have d7 : decide (6 < (l.length : Int)) = false := decide_eq_false (by omega)
 have dP : ((P.length : Int) != (N : Int)) = false := by rw [hPl]; simp
 clear CS CC CG CW CB CV CI CK CE CR CP hperm hPl hL hV hBk hJ hP eB eF eR eV eW eV2 eW2 eF0 h0E hJE hway hway2 hall hall2 hrng hE2 hWE hWE2 hbl hE hsh hl1000 hWl hWl2 hq1 hq2
 have hA := hS
 obtain ⟨w0, hw0⟩ : ∃ w0, w0 = w := ⟨_, rfl⟩
 have t0 : Below w.heap.size w w0 := by rw [hw0]; exact Below.refl _ _
 clear hw0
 go_enter Tryz.func4, Tryz.ntmps4
 clear hS
 go_wp2_with fail
 refine (HCS.out _ hA).mono ?_
 rintro e w1 ⟨rfl, b1⟩
 replace hA := hA.below b1
 have t1 := b1
 clear b1
 go_wp2_with fail
 refine (HCC.out _ hA).mono ?_
 rintro e w2 ⟨rfl, b2⟩
 replace hA := hA.below b2
 have t2 := bnext t1 b2
 clear t1 b2
 go_wp2_with fail
 refine (HCG.out _ hA).mono ?_
 rintro e w3 ⟨v3, rfl, ho3, b3⟩
 obtain ⟨aQ, cQ, rfl, hQ, _, _⟩ := ho3.reps
 clear ho3
 replace hA := hA.below b3
 have t3 := bnext t2 b3
 clear t2 b3
 go_wp2_with fail
 refine (HCW.out aQ cQ _ hQ).mono ?_
 rintro e w4 ⟨aW, cW, rfl, hW, _, b4⟩
 replace hA := hA.below b4
 replace hQ := hQ.below b4
 have t4 := bnext t3 b4
 clear t3 b4
 clear hQ
 go_wp2_with fail
 refine (HCG.out _ hA).mono ?_
 rintro e w5 ⟨v5, rfl, ho5, b5⟩
 obtain ⟨aQ, cQ, rfl, hQ, _, _⟩ := ho5.reps
 clear ho5
 replace hA := hA.below b5
 replace hW := hW.below b5
 have t5 := bnext t4 b5
 clear t4 b5
 go_wp2_with fail
 refine (HCB.out aQ cQ _ hQ).mono ?_
 rintro e w6 ⟨aB, cB, rfl, hB, _, b6⟩
 replace hA := hA.below b6
 replace hW := hW.below b6
 replace hQ := hQ.below b6
 have t6 := bnext t5 b6
 clear t5 b6
 clear hQ
 go_wp2_with fail
 refine (HCV.out aB cB _ hB).mono ?_
 rintro e w7 ⟨aV, cV, rfl, hV, _, b7⟩
 replace hA := hA.below b7
 replace hW := hW.below b7
 replace hB := hB.below b7
 have t7 := bnext t6 b7
 clear t6 b7
 clear hB
 go_wp2_with fail
 refine (HCI.out aW cW _ hW).mono ?_
 rintro e w8 ⟨v8, rfl, ho8, b8⟩
 obtain ⟨aU, cU, rfl, hU, _, _⟩ := ho8.reps
 clear ho8
 replace hA := hA.below b8
 replace hW := hW.below b8
 replace hV := hV.below b8
 have t8 := bnext t7 b8
 clear t7 b8
 go_wp2_with fail
 refine (HCK.out aW cW aV cV _ hW hV).mono ?_
 rintro e w9 ⟨v9, rfl, ho9, b9⟩
 obtain ⟨aJ, cJ, rfl, hJ, _, _⟩ := ho9.reps
 clear ho9
 replace hA := hA.below b9
 replace hW := hW.below b9
 replace hV := hV.below b9
 replace hU := hU.below b9
 have t9 := bnext t8 b9
 clear t8 b9
 go_wp2_with fail
 refine (HCE.out aJ cJ _ hJ).mono ?_
 rintro e w10 ⟨rfl, b10⟩
 replace hA := hA.below b10
 replace hW := hW.below b10
 replace hV := hV.below b10
 replace hU := hU.below b10
 replace hJ := hJ.below b10
 have t10 := bnext t9 b10
 clear t9 b10
 go_wp2_with fail
 refine (HCR.out aJ cJ _ hJ).mono ?_
 rintro e w11 ⟨v11, rfl, ho11, b11⟩
 obtain ⟨aR, cR, rfl, hR, _, _⟩ := ho11.reps
 clear ho11
 replace hA := hA.below b11
 replace hW := hW.below b11
 replace hV := hV.below b11
 replace hU := hU.below b11
 replace hJ := hJ.below b11
 have t11 := bnext t10 b11
 clear t10 b11
 clear hJ
 go_wp2_with fail
 refine (HCP.out aW cW _ hW).mono ?_
 rintro e w12 ⟨v12, rfl, ho12, b12⟩
 obtain ⟨aP, cP, rfl, hP, _, _⟩ := ho12.reps
 clear ho12
 replace hA := hA.below b12
 replace hW := hW.below b12
 replace hV := hV.below b12
 replace hU := hU.below b12
 replace hR := hR.below b12
 have t12 := bnext t11 b12
 clear t11 b12
 clear hW
 go_wp2_with fail
 refine (amSame aU aV cU cV V.length V _ hU hV rfl (by omega)).mono ?_
 rintro e w13 ⟨rfl, b13⟩
 replace hA := hA.below b13
 replace hV := hV.below b13
 replace hU := hU.below b13
 replace hR := hR.below b13
 replace hP := hP.below b13
 have t13 := bnext t12 b13
 clear t12 b13
 clear hU hV
 clear HCS HCC HCG HCW HCB HCV HCI HCK HCE HCR HCP hVl d6 d7
 have tz := t13
 obtain ⟨wz, hwz⟩ : ∃ wz, wz = w13 := ⟨_, rfl⟩
 rw [← hwz] at tz hA hP hR ⊢
 clear hwz t13 hR
 have hS1 := (SL.nil wz).nilS (α := Int) (c := cInt) (sz := 1) (e := 3) cIntS
 go_wp2_with fail
 go_loopw [137, 22, 21] (fun iv _ ov wr => ∃ k : Nat, k ≤ N ∧ iv = .int .i64 k ∧ SL wz.heap.size wz wr [pOwn cInt 1 3 ov (idL k)]) (fun iv _ _ _ => N - (intOf iv).toNat)
 case atStart => exact ⟨0, by omega, rfl, hS1⟩
 case round =>
  clear hS1
  obtain ⟨k, hk, rfl, hSr⟩ := hrel
  by_cases hlt : k < N
  ·have hil : (idL k).length ≤ 20 := by rw [idL_len]; omega
   have hsn := idL_succ k
   obtain ⟨IL, hIL⟩ : ∃ IL, IL = idL k := ⟨_, rfl⟩
   rw [← hIL] at hSr hil hsn
   have HSN := hid hsn
   clear hIL hsn
   go_wp2_with ((with_reducible refine wpList_pushL (y := (k : Int)) 0 E_ints wU wU (hSr) wU cIntO ⟨rfl, rfl⟩ (by first | with_unfolding_all rfl | simp) wU (by first | omega | (simp; omega)) (by first | omega | (simp; omega)) ?_); intro v2 w2 hS2)
   exact ⟨⟨k + 1, by omega, by go_num, by rw [HSN.out]; exact hS2⟩, by simp [intOf]; omega⟩
  ·have hkk : k = N := by omega
   rw [hkk] at hSr
   have hkn : ¬ ((k : Int) < (N : Int)) := by omega
   clear hkk hlt hk
   go_wp2_with fail
   go_loopw [147, 24, 25, 26, 21] (fun iv _ _ _ ov wr => ∃ j : Nat, j ≤ l.length ∧ iv = .int .i64 j ∧ SL wz.heap.size wz wr [pOwn cInt 1 3 ov (rowK N l j)]) (fun iv _ _ _ _ _ => l.length - (intOf iv).toNat)
   case atStart => exact ⟨0, by omega, rfl, hSr⟩
   case round =>
    clear hSr hkn
    obtain ⟨j, hj, rfl, hSr⟩ := hrel
    by_cases hlt : j < l.length
    ·have hAr := hA.below hSr.b
     obtain ⟨f, t, hpf, hpt, hf, ht⟩ := HPS.out j hlt
     have hst := HRS.out j hlt
     have hrl := HRL.out j
     rw [hpf, hpt, show ((f : Int) + 1).toNat = f + 1 by omega, show ((t : Int) + 1).toNat = t + 1 by omega] at hst
     have hrl1 := HRL.out (j + 1)
     obtain ⟨R, hR⟩ : ∃ R, R = rowK N l j := ⟨_, rfl⟩
     rw [← hR] at hSr hst hrl
     obtain ⟨⟨pf, pt, pw⟩, hp⟩ : ∃ p, p = atD pass0 l j := ⟨_, rfl⟩
     rw [← hp] at hpf hpt
     dsimp only at hpf hpt
     subst hpf; subst hpt
     have HP := hid hp
     have HST := hid hst; have HRl := hid hrl; have HR1 := hid hrl1
     obtain ⟨ar, cr, hvr, -⟩ := hSr.slice 0 rfl
     rw [hrl] at hvr
     subst hvr
     clear hp hst hR hrl hrl1
     have hwf : IntKind.i64.wrap ((f : Int) + 1 - 1) = f := by rw [Int.add_sub_cancel]; exact IntWalk.i64_in _ (by omega)
     have hfR : (f : Int) < (R.length : Int) := by rw [HRl.out]; omega
     have hRr := (hSr.rd 0 rfl).alloc (.cells #[.int .i64 ((f : Int) + 1), .int .i64 ((t : Int) + 1), .string pw] 53)
     obtain ⟨S, hS⟩ : ∃ S, S = atD 0 R f := ⟨_, rfl⟩
     have HS := hid hS
     clear hS
     go_wp2_with (first | ((with_reducible refine wpList_idxS _ pass0 E_rpasses F_rpass cPass1 wU wU (hAr) oD oD (fun _ => wU) (fun _ => ?_)); (try simp only [← HP.out]); (try simp only [cPass])) | ((with_reducible refine wpList_idxN _ 0 E_ints F_int cInt1 wU wU (hRr) (HRl.out) oD oD (fun _ => wU) (fun _ => ?_)); rw [← HS.out]))
     have hSb := hSr.box (.cells #[.int .i64 ((f : Int) + 1), .int .i64 ((t : Int) + 1), .string pw] 53)
     obtain ⟨Bx, hBx⟩ : ∃ Bx, Bx = wr.heap.size := ⟨_, rfl⟩
     obtain ⟨wk, hwk⟩ : ∃ wk, wk = wr.alloc (.cells #[.int .i64 ((f : Int) + 1), .int .i64 ((t : Int) + 1), .string pw] 53) := ⟨_, rfl⟩
     rw [← hBx, ← hwk] at hSb
     rw [← hwk] at hRr
     simp only [← hBx, ← hwk]
     clear hBx hwk hSr hAr
     have c0 := hSb.cell 0 rfl 0 rfl
     have hcr : N ≤ cr := by have := hRr.le; rw [HRl.out] at this; exact this
     have hwt : IntKind.i64.wrap ((t : Int) + 1 - 1) = t := by rw [Int.add_sub_cancel]; exact IntWalk.i64_in _ (by omega)
     obtain ⟨x1, hx1⟩ := cut_hi (a := ar) (n := N) (cp := cr) (j := f) (by omega) hcr
     obtain ⟨x2, hx2⟩ := cut_lo (a := ar) (n := N) (cp := cr) (i := f + 1) (by omega) hcr
     have HTF : Hid ((R.take f).length = f) := hid (by rw [List.length_take, HRl.out]; omega)
     have HDF : Hid ((R.drop (f + 1)).length = N - (f + 1)) := hid (by rw [List.length_drop, HRl.out])
     have hl1 : (R.take f).length ≤ 20 := by rw [HTF.out]; omega
     have hl0 : R.length ≤ 20 := by rw [HRl.out]; omega
     clear hfR
     refine wp_regionK (C := Below (wk).heap.size (wk)) [1, 2, 3, 4, 5, 7, 8, 9, 10] [_, _, _, _, _, _, _, _, _] 4 (by simp only [List.map_cons, List.map_nil, List.getElem?_toArray]; rfl) rfl kR kR kR ((Below.refl _ _).drew) ?_
     refine ⟨.slice ar N cr, yieldsK_val wU (fun w' => by first | (go_simp; done) | (go_simp; rfl)), ?_⟩
     go_frame
     refine ⟨.pointer (some ⟨Bx, 0, none⟩), yieldsK_val wU (fun w' => by first | (go_simp; done) | (go_simp; rfl)), ?_⟩
     go_frame
     refine ⟨_, yieldsK_cell F_int (c0) wU wU, ?_⟩
     go_frame
     refine ⟨.int .i64 (IntKind.i64.wrap ((f : Int) + 1 - 1)), yieldsK_val wU (fun w' => by first | (go_simp; done) | (go_simp; rfl)), ?_⟩
     go_frame
     rw [hwf]
     refine ⟨.slice x1 f cr, yieldsK_sl wU wU wU (fun V hV => (hx1 V R HRl.out (hRr.below hV)).1) wU, ?_⟩
     go_frame
     refine ⟨.slice ar N cr, yieldsK_val wU (fun w' => by first | (go_simp; done) | (go_simp; rfl)), ?_⟩
     go_frame
     refine ⟨.pointer (some ⟨Bx, 0, none⟩), yieldsK_val wU (fun w' => by first | (go_simp; done) | (go_simp; rfl)), ?_⟩
     go_frame
     refine ⟨_, yieldsK_cell F_int (c0) wU wU, ?_⟩
     go_frame
     refine ⟨.slice x2 (N - (f + 1)) (cr - (f + 1)), yieldsK_sl wU wU wU (fun V hV => (hx2 V R HRl.out (hRr.below hV)).1) wU, ?_⟩
     go_frame
     unfold wpPureK
     have hVd : ({ wk with drawn := wk.drawn + 1 } : World) = wk.drew := rfl
     rw [hVd]
     have hT0 : SL wk.heap.size wk wk.drew [] := (SL.nil wk).drew
     refine wpAnyC_on [0] kR (by simp) ?_
     simp only [List.forall_mem_cons, List.not_mem_nil, false_implies, implies_true, and_true]
     have hT1 := (hT0).call (SL.ofOwn (own_newN (e := 3) (w := wk.drew) cIntS [] 0 rfl (by decide) #[] rfl (Nat.le_refl _) rfl) (bal (Below.refl _ _) _))
     simp only [List.cons_append, List.nil_append] at hT1
     refine wpOp_value (v := .slice (some ⟨(wk.drew).heap.size, 0, none⟩) 0 0) (w' := (wk.drew).alloc (.cells #[] 3)) (by rw [List.getElem?_toArray]; rfl) wU (by first | (go_simp; done) | (go_simp; rfl) | (simp [execOp, Act.eval, Result.andThen]; done)) ?_
     refine ⟨hT1.b, ?_⟩
     go_frame
     obtain ⟨VhT1, hVhT1⟩ : ∃ V, V = (wk.drew).alloc (.cells #[] 3) := ⟨_, rfl⟩
     obtain ⟨nhT1, hnhT1⟩ : ∃ b, b = (wk.drew).heap.size := ⟨_, rfl⟩
     rw [← hVhT1, ← hnhT1] at hT1
     simp only [← hVhT1, ← hnhT1]
     clear hVhT1 hnhT1
     refine wpAnyC_on [6] kR (by simp) ?_
     simp only [List.forall_mem_cons, List.not_mem_nil, false_implies, implies_true, and_true]
     refine wpOp_of_list (by rw [List.getElem?_toArray]; rfl) ?_
     ((with_reducible refine wpList_appL 0 E_ints wU wU (hT1) wU ((hx1 _ R HRl.out (hRr.below hT1.b)).2) (HTF.out.symm) cIntO (by first | omega | (simp; omega)) (by first | omega | (simp; omega)) ?_); intro v2 w2 hT2)
     (try rw [List.nil_append] at hT2)
     refine ⟨hT2.b, ?_⟩
     go_frame
     refine wpAnyC_on [11] kR (by simp) ?_
     simp only [List.forall_mem_cons, List.not_mem_nil, false_implies, implies_true, and_true]
     refine wpOp_of_list (by rw [List.getElem?_toArray]; rfl) ?_
     ((with_reducible refine wpList_appL 0 E_ints wU wU (hT2) wU ((hx2 _ R HRl.out (hRr.below hT2.b)).2) (HDF.out.symm) cIntO (by first | omega | (simp; omega)) (by first | omega | (simp; omega)) ?_); intro v3 w3 hT3)
     (try rw [List.nil_append] at hT3)
     refine ⟨hT3.b, ?_⟩
     go_frame
     obtain ⟨a9, c9, rfl, -⟩ := hT3.slice 0 rfl
     refine wpAnyC_rest [12] [_] rfl (by simp only [List.map_cons, List.map_nil, List.getElem?_toArray]; rfl) kR kR kR (hT3.b) ?_
     refine ⟨.slice a9 (R.take f ++ R.drop (f + 1)).length c9, .inl ⟨by with_unfolding_all rfl, fun w' _ => by first | (go_simp; done) | (go_simp; rfl) | with_unfolding_all exact rfl⟩, ?_⟩
     go_frame
     unfold wpPure
     refine of_wpList_nil (P := Tryz.prog) (ops := #[]) ?_
     have hSc := hSb.call hT3
     obtain ⟨M, hM⟩ : ∃ M, M = R.take f ++ R.drop (f + 1) := ⟨_, rfl⟩
     have hMl : M.length = N - 1 := by rw [hM, List.length_append, HTF.out, HDF.out]; omega
     obtain ⟨Q, hQ⟩ : ∃ Q, Q = N - 1 := ⟨_, rfl⟩
     rw [← hQ] at hMl
     rw [← hM] at hSc ⊢
     rw [hMl] at hSc ⊢
     have HFIN : Hid (rowK N l (j + 1) = M.take t ++ [S] ++ M.drop t) := hid (by
      rw [HST.out, hM, HS.out]
      unfold mvL
      simp only [Nat.add_sub_cancel]
      rfl)
     obtain ⟨wm, hwm⟩ : ∃ wm, wm = w3 := ⟨_, rfl⟩
     rw [← hwm] at hSc ⊢
     have HMl := hid hMl
     have hMr := hSc.rd 0 rfl
     have hMc : Q ≤ c9 := by have := hMr.le; rw [HMl.out] at this; exact this
     have c1 := hSc.cell 1 rfl 1 rfl
     have htQ : t ≤ Q := by omega
     obtain ⟨x3, hx3⟩ := cut_hi (a := a9) (n := Q) (cp := c9) (j := t) htQ hMc
     obtain ⟨x4, hx4⟩ := cut_lo (a := a9) (n := Q) (cp := c9) (i := t) htQ hMc
     have HT3 : Hid ((M.take t).length = t) := hid (by rw [List.length_take, hMl]; omega)
     have HD3 : Hid ((M.drop t).length = Q - t) := hid (by rw [List.length_drop, hMl])
     have hlM : (M.take t).length ≤ 20 := by rw [HT3.out]; omega
     have hlM0 : M.length ≤ 20 := by rw [hMl]; omega
     have hlM1 : (M.take t ++ [S]).length ≤ 20 := by rw [List.length_append, HT3.out]; simp; omega
     clear hM hMl hQ hwm hx1 hx2 hRr hT3 hSb c0 hT0
     go_wp2_with fail
     refine wp_regionK (C := Below (wm).heap.size (wm)) [1, 2, 3, 4, 5, 7, 10, 11, 12, 13, 14] [_, _, _, _, _, _, _, _, _, _, _] 6 (by simp only [List.map_cons, List.map_nil, List.getElem?_toArray]; rfl) rfl kR kR kR ((Below.refl _ _).drew) ?_
     refine ⟨.slice a9 Q c9, yieldsK_val wU (fun w' => by first | (go_simp; done) | (go_simp; rfl)), ?_⟩
     go_frame
     refine ⟨.pointer (some ⟨Bx, 1, none⟩), yieldsK_val wU (fun w' => by first | (go_simp; done) | (go_simp; rfl)), ?_⟩
     go_frame
     refine ⟨_, yieldsK_cell F_int (c1) wU wU, ?_⟩
     go_frame
     refine ⟨.int .i64 (IntKind.i64.wrap ((t : Int) + 1 - 1)), yieldsK_val wU (fun w' => by first | (go_simp; done) | (go_simp; rfl)), ?_⟩
     go_frame
     rw [hwt]
     refine ⟨.slice x3 t c9, yieldsK_sl wU wU wU (fun V hV => (hx3 V M HMl.out (hMr.below hV)).1) wU, ?_⟩
     go_frame
     refine ⟨.int .i64 S, yieldsK_val wU (fun w' => by first | (go_simp; done) | (go_simp; rfl)), ?_⟩
     go_frame
     refine ⟨.slice a9 Q c9, yieldsK_val wU (fun w' => by first | (go_simp; done) | (go_simp; rfl)), ?_⟩
     go_frame
     refine ⟨.pointer (some ⟨Bx, 1, none⟩), yieldsK_val wU (fun w' => by first | (go_simp; done) | (go_simp; rfl)), ?_⟩
     go_frame
     refine ⟨_, yieldsK_cell F_int (c1) wU wU, ?_⟩
     go_frame
     refine ⟨.int .i64 (IntKind.i64.wrap ((t : Int) + 1 - 1)), yieldsK_val wU (fun w' => by first | (go_simp; done) | (go_simp; rfl)), ?_⟩
     go_frame
     rw [hwt]
     refine ⟨.slice x4 (Q - t) (c9 - t), yieldsK_sl wU wU wU (fun V hV => (hx4 V M HMl.out (hMr.below hV)).1) wU, ?_⟩
     go_frame
     unfold wpPureK
     have hVd : ({ wm with drawn := wm.drawn + 1 } : World) = wm.drew := rfl
     rw [hVd]
     have hT0 : SL wm.heap.size wm wm.drew [] := (SL.nil wm).drew
     refine wpAnyC_on [0, 8] kR (by simp) ?_
     simp only [List.forall_mem_cons, List.not_mem_nil, false_implies, implies_true, and_true]
     refine ⟨?_, ?_⟩
     ·have hT1 := (hT0).call (SL.ofOwn (own_newN (e := 3) (w := wm.drew) cIntS [] 0 rfl (by decide) #[] rfl (Nat.le_refl _) rfl) (bal (Below.refl _ _) _))
      simp only [List.cons_append, List.nil_append] at hT1
      refine wpOp_value (v := .slice (some ⟨(wm.drew).heap.size, 0, none⟩) 0 0) (w' := (wm.drew).alloc (.cells #[] 3)) (by rw [List.getElem?_toArray]; rfl) wU (by first | (go_simp; done) | (go_simp; rfl) | (simp [execOp, Act.eval, Result.andThen]; done)) ?_
      refine ⟨hT1.b, ?_⟩
      go_frame
      obtain ⟨VhT1, hVhT1⟩ : ∃ V, V = (wm.drew).alloc (.cells #[] 3) := ⟨_, rfl⟩
      obtain ⟨nhT1, hnhT1⟩ : ∃ b, b = (wm.drew).heap.size := ⟨_, rfl⟩
      rw [← hVhT1, ← hnhT1] at hT1
      simp only [← hVhT1, ← hnhT1]
      clear hVhT1 hnhT1
      refine wpAnyC_on [6, 8] kR (by simp) ?_
      simp only [List.forall_mem_cons, List.not_mem_nil, false_implies, implies_true, and_true]
      refine ⟨?_, ?_⟩
      ·refine wpOp_of_list (by rw [List.getElem?_toArray]; rfl) ?_
       ((with_reducible refine wpList_appL 0 E_ints wU wU (hT1) wU ((hx3 _ M HMl.out (hMr.below hT1.b)).2) (HT3.out.symm) cIntO (by first | omega | (simp; omega)) (by first | omega | (simp; omega)) ?_); intro v2 w2 hT2)
       (try rw [List.nil_append] at hT2)
       refine ⟨hT2.b, ?_⟩
       go_frame
       refine wpAnyC_on [8] kR (by simp) ?_
       simp only [List.forall_mem_cons, List.not_mem_nil, false_implies, implies_true, and_true]
       have hT3 := (hT2).call (SL.ofOwn (own_newN (e := 3) (w := w2) cIntS [S] 1 rfl (by decide) #[.int .i64 S] rfl (Nat.le_refl _) rfl) (bal (Below.refl _ _) _))
       simp only [List.cons_append, List.nil_append] at hT3
       refine wpOp_value (v := .slice (some ⟨(w2).heap.size, 0, none⟩) 1 1) (w' := (w2).alloc (.cells #[.int .i64 S] 3)) (by rw [List.getElem?_toArray]; rfl) wU (by first | (go_simp; done) | (go_simp; rfl) | (simp [execOp, Act.eval, Result.andThen]; done)) ?_
       refine ⟨hT3.b, ?_⟩
       go_frame
       obtain ⟨VhT3, hVhT3⟩ : ∃ V, V = (w2).alloc (.cells #[.int .i64 S] 3) := ⟨_, rfl⟩
       obtain ⟨nhT3, hnhT3⟩ : ∃ b, b = (w2).heap.size := ⟨_, rfl⟩
       rw [← hVhT3, ← hnhT3] at hT3
       simp only [← hVhT3, ← hnhT3]
       clear hVhT3 hnhT3
       refine wpAnyC_on [9] kR (by simp) ?_
       simp only [List.forall_mem_cons, List.not_mem_nil, false_implies, implies_true, and_true]
       refine wpOp_of_list (by rw [List.getElem?_toArray]; rfl) ?_
       have hRb := hT3.rd 0 rfl
       ((with_reducible refine wpList_appL 1 E_ints wU wU (hT3) wU (hRb) (rfl) cIntO (by first | omega | (simp; omega)) (by first | omega | (simp; omega)) ?_); intro v4 w4 hT4)
       (try rw [List.nil_append] at hT4)
       refine ⟨hT4.b, ?_⟩
       go_frame
       refine wpAnyC_on [15] kR (by simp) ?_
       simp only [List.forall_mem_cons, List.not_mem_nil, false_implies, implies_true, and_true]
       refine wpOp_of_list (by rw [List.getElem?_toArray]; rfl) ?_
       ((with_reducible refine wpList_appL 1 E_ints wU wU (hT4) wU ((hx4 _ M HMl.out (hMr.below hT4.b)).2) (HD3.out.symm) cIntO (by first | omega | (simp; omega)) (by first | omega | (simp; omega)) ?_); intro v5 w5 hT5)
       (try rw [List.nil_append] at hT5)
       refine ⟨hT5.b, ?_⟩
       go_frame
       obtain ⟨b9, d9, rfl, -⟩ := hT5.slice 1 rfl
       refine wpAnyC_rest [16] [_] rfl (by simp only [List.map_cons, List.map_nil, List.getElem?_toArray]; rfl) kR kR kR (hT5.b) ?_
       refine ⟨.slice b9 (M.take t ++ [S] ++ M.drop t).length d9, .inl ⟨by with_unfolding_all rfl, fun w' _ => by first | (go_simp; done) | (go_simp; rfl) | with_unfolding_all exact rfl⟩, ?_⟩
       go_frame
       unfold wpPure
       refine of_wpList_nil (P := Tryz.prog) (ops := #[]) ?_
       have hSd := hSc.call (hT5.one 1 rfl)
       rw [← HFIN.out] at hSd ⊢
       clear hT5
       go_wp2_with fail
       exact ⟨⟨j + 1, by omega, by go_num, hSd.one 0 rfl⟩, by simp [intOf]; omega⟩
      ·have hT2 := (hT1).call (SL.ofOwn (own_newN (e := 3) (w := VhT1) cIntS [S] 1 rfl (by decide) #[.int .i64 S] rfl (Nat.le_refl _) rfl) (bal (Below.refl _ _) _))
       simp only [List.cons_append, List.nil_append] at hT2
       refine wpOp_value (v := .slice (some ⟨(VhT1).heap.size, 0, none⟩) 1 1) (w' := (VhT1).alloc (.cells #[.int .i64 S] 3)) (by rw [List.getElem?_toArray]; rfl) wU (by first | (go_simp; done) | (go_simp; rfl) | (simp [execOp, Act.eval, Result.andThen]; done)) ?_
       refine ⟨hT2.b, ?_⟩
       go_frame
       obtain ⟨VhT2, hVhT2⟩ : ∃ V, V = (VhT1).alloc (.cells #[.int .i64 S] 3) := ⟨_, rfl⟩
       obtain ⟨nhT2, hnhT2⟩ : ∃ b, b = (VhT1).heap.size := ⟨_, rfl⟩
       rw [← hVhT2, ← hnhT2] at hT2
       simp only [← hVhT2, ← hnhT2]
       clear hVhT2 hnhT2
       refine wpAnyC_on [6] kR (by simp) ?_
       simp only [List.forall_mem_cons, List.not_mem_nil, false_implies, implies_true, and_true]
       refine wpOp_of_list (by rw [List.getElem?_toArray]; rfl) ?_
       ((with_reducible refine wpList_appL 1 E_ints wU wU (hT2) wU ((hx3 _ M HMl.out (hMr.below hT2.b)).2) (HT3.out.symm) cIntO (by first | omega | (simp; omega)) (by first | omega | (simp; omega)) ?_); intro v3 w3 hT3)
       (try rw [List.nil_append] at hT3)
       refine ⟨hT3.b, ?_⟩
       go_frame
       refine wpAnyC_on [9] kR (by simp) ?_
       simp only [List.forall_mem_cons, List.not_mem_nil, false_implies, implies_true, and_true]
       refine wpOp_of_list (by rw [List.getElem?_toArray]; rfl) ?_
       have hRb := hT3.rd 0 rfl
       ((with_reducible refine wpList_appL 1 E_ints wU wU (hT3) wU (hRb) (rfl) cIntO (by first | omega | (simp; omega)) (by first | omega | (simp; omega)) ?_); intro v4 w4 hT4)
       (try rw [List.nil_append] at hT4)
       refine ⟨hT4.b, ?_⟩
       go_frame
       refine wpAnyC_on [15] kR (by simp) ?_
       simp only [List.forall_mem_cons, List.not_mem_nil, false_implies, implies_true, and_true]
       refine wpOp_of_list (by rw [List.getElem?_toArray]; rfl) ?_
       ((with_reducible refine wpList_appL 1 E_ints wU wU (hT4) wU ((hx4 _ M HMl.out (hMr.below hT4.b)).2) (HD3.out.symm) cIntO (by first | omega | (simp; omega)) (by first | omega | (simp; omega)) ?_); intro v5 w5 hT5)
       (try rw [List.nil_append] at hT5)
       refine ⟨hT5.b, ?_⟩
       go_frame
       obtain ⟨b9, d9, rfl, -⟩ := hT5.slice 1 rfl
       refine wpAnyC_rest [16] [_] rfl (by simp only [List.map_cons, List.map_nil, List.getElem?_toArray]; rfl) kR kR kR (hT5.b) ?_
       refine ⟨.slice b9 (M.take t ++ [S] ++ M.drop t).length d9, .inl ⟨by with_unfolding_all rfl, fun w' _ => by first | (go_simp; done) | (go_simp; rfl) | with_unfolding_all exact rfl⟩, ?_⟩
       go_frame
       unfold wpPure
       refine of_wpList_nil (P := Tryz.prog) (ops := #[]) ?_
       have hSd := hSc.call (hT5.one 1 rfl)
       rw [← HFIN.out] at hSd ⊢
       clear hT5
       go_wp2_with fail
       exact ⟨⟨j + 1, by omega, by go_num, hSd.one 0 rfl⟩, by simp [intOf]; omega⟩
     ·have hT1 := (hT0).call (SL.ofOwn (own_newN (e := 3) (w := wm.drew) cIntS [S] 1 rfl (by decide) #[.int .i64 S] rfl (Nat.le_refl _) rfl) (bal (Below.refl _ _) _))
      simp only [List.cons_append, List.nil_append] at hT1
      refine wpOp_value (v := .slice (some ⟨(wm.drew).heap.size, 0, none⟩) 1 1) (w' := (wm.drew).alloc (.cells #[.int .i64 S] 3)) (by rw [List.getElem?_toArray]; rfl) wU (by first | (go_simp; done) | (go_simp; rfl) | (simp [execOp, Act.eval, Result.andThen]; done)) ?_
      refine ⟨hT1.b, ?_⟩
      go_frame
      obtain ⟨VhT1, hVhT1⟩ : ∃ V, V = (wm.drew).alloc (.cells #[.int .i64 S] 3) := ⟨_, rfl⟩
      obtain ⟨nhT1, hnhT1⟩ : ∃ b, b = (wm.drew).heap.size := ⟨_, rfl⟩
      rw [← hVhT1, ← hnhT1] at hT1
      simp only [← hVhT1, ← hnhT1]
      clear hVhT1 hnhT1
      refine wpAnyC_on [0] kR (by simp) ?_
      simp only [List.forall_mem_cons, List.not_mem_nil, false_implies, implies_true, and_true]
      have hT2 := (hT1).call (SL.ofOwn (own_newN (e := 3) (w := VhT1) cIntS [] 0 rfl (by decide) #[] rfl (Nat.le_refl _) rfl) (bal (Below.refl _ _) _))
      simp only [List.cons_append, List.nil_append] at hT2
      refine wpOp_value (v := .slice (some ⟨(VhT1).heap.size, 0, none⟩) 0 0) (w' := (VhT1).alloc (.cells #[] 3)) (by rw [List.getElem?_toArray]; rfl) wU (by first | (go_simp; done) | (go_simp; rfl) | (simp [execOp, Act.eval, Result.andThen]; done)) ?_
      refine ⟨hT2.b, ?_⟩
      go_frame
      obtain ⟨VhT2, hVhT2⟩ : ∃ V, V = (VhT1).alloc (.cells #[] 3) := ⟨_, rfl⟩
      obtain ⟨nhT2, hnhT2⟩ : ∃ b, b = (VhT1).heap.size := ⟨_, rfl⟩
      rw [← hVhT2, ← hnhT2] at hT2
      simp only [← hVhT2, ← hnhT2]
      clear hVhT2 hnhT2
      refine wpAnyC_on [6] kR (by simp) ?_
      simp only [List.forall_mem_cons, List.not_mem_nil, false_implies, implies_true, and_true]
      refine wpOp_of_list (by rw [List.getElem?_toArray]; rfl) ?_
      ((with_reducible refine wpList_appL 0 E_ints wU wU (hT2) wU ((hx3 _ M HMl.out (hMr.below hT2.b)).2) (HT3.out.symm) cIntO (by first | omega | (simp; omega)) (by first | omega | (simp; omega)) ?_); intro v3 w3 hT3)
      (try rw [List.nil_append] at hT3)
      refine ⟨hT3.b, ?_⟩
      go_frame
      refine wpAnyC_on [9] kR (by simp) ?_
      simp only [List.forall_mem_cons, List.not_mem_nil, false_implies, implies_true, and_true]
      refine wpOp_of_list (by rw [List.getElem?_toArray]; rfl) ?_
      have hRb := hT3.rd 1 rfl
      ((with_reducible refine wpList_appL 0 E_ints wU wU (hT3) wU (hRb) (rfl) cIntO (by first | omega | (simp; omega)) (by first | omega | (simp; omega)) ?_); intro v4 w4 hT4)
      (try rw [List.nil_append] at hT4)
      refine ⟨hT4.b, ?_⟩
      go_frame
      refine wpAnyC_on [15] kR (by simp) ?_
      simp only [List.forall_mem_cons, List.not_mem_nil, false_implies, implies_true, and_true]
      refine wpOp_of_list (by rw [List.getElem?_toArray]; rfl) ?_
      ((with_reducible refine wpList_appL 0 E_ints wU wU (hT4) wU ((hx4 _ M HMl.out (hMr.below hT4.b)).2) (HD3.out.symm) cIntO (by first | omega | (simp; omega)) (by first | omega | (simp; omega)) ?_); intro v5 w5 hT5)
      (try rw [List.nil_append] at hT5)
      refine ⟨hT5.b, ?_⟩
      go_frame
      obtain ⟨b9, d9, rfl, -⟩ := hT5.slice 0 rfl
      refine wpAnyC_rest [16] [_] rfl (by simp only [List.map_cons, List.map_nil, List.getElem?_toArray]; rfl) kR kR kR (hT5.b) ?_
      refine ⟨.slice b9 (M.take t ++ [S] ++ M.drop t).length d9, .inl ⟨by with_unfolding_all rfl, fun w' _ => by first | (go_simp; done) | (go_simp; rfl) | with_unfolding_all exact rfl⟩, ?_⟩
      go_frame
      unfold wpPure
      refine of_wpList_nil (P := Tryz.prog) (ops := #[]) ?_
      have hSd := hSc.call (hT5.one 0 rfl)
      rw [← HFIN.out] at hSd ⊢
      clear hT5
      go_wp2_with fail
      exact ⟨⟨j + 1, by omega, by go_num, hSd.one 0 rfl⟩, by simp [intOf]; omega⟩
    ·have hjj : j = l.length := by omega
     rw [hjj, HRF.out] at hSr
     have hrl := HRL.out l.length
     rw [HRF.out] at hrl
     obtain ⟨R, hR⟩ : ∃ R, R = rowPs N l := ⟨_, rfl⟩
     rw [← hR] at hSr hrl HPM
     obtain ⟨ar, cr, hvr, -⟩ := hSr.slice 0 rfl
     rw [hrl] at hvr
     subst hvr
     have hRw := hSr.rd 0 rfl
     have hPw := hP.below hSr.b
     have tw := bnext tz hSr.b
     have HRl := hid hrl
     have hjn : ¬ ((j : Int) < (l.length : Int)) := by omega
     clear hSr hR hrl hjj hlt hj hA hP tz dP
     go_wp2_with fail
     go_loopw [188, 27, 28] (fun iv _ _ wq => ∃ i : Nat, i ≤ N ∧ iv = .int .i64 i ∧ Below wr.heap.size wr wq) (fun iv _ _ _ => N - (intOf iv).toNat)
     case atStart => exact ⟨0, by omega, rfl, Below.refl _ _⟩
     case round =>
      obtain ⟨i, hi, rfl, hbq⟩ := hrel
      by_cases hlt : i < N
      ·obtain ⟨⟨hx0, hx1⟩, hpx⟩ := HPM.out i hlt
       obtain ⟨x, hx⟩ : ∃ x, x = atD 0 R i := ⟨_, rfl⟩
       rw [← hx] at hx0 hx1 hpx
       have HX := hid hx; have HPX := hid hpx
       have hRq := hRw.below hbq
       have hPq := hPw.below hbq
       have hiR : (i : Int) < (R.length : Int) := by rw [HRl.out]; omega
       have hxP : x < (P.length : Int) := by rw [HPL.out]; exact hx1
       have dI : ((i : Int) != (i : Int)) = false := by simp
       clear hx hpx
       go_wp2_with (first | ((with_reducible refine wpList_idxN _ 0 E_ints F_int cInt1 wU wU (hRq) (HRl.out) oD oD (fun _ => wU) (fun _ => ?_)); rw [← HX.out]) | ((with_reducible refine wpList_idx _ 0 E_ints F_int cInt1 wU wU (hPq) oD oD (fun _ => wU) (fun _ => ?_)); rw [HPX.out]))
       exact ⟨⟨i + 1, by omega, by go_num, hbq⟩, by simp [intOf]; omega⟩
      ·have hin : ¬ ((i : Int) < (N : Int)) := by omega
       go_wp2_with fail
       refine (HGP.out _).mono ?_
       rintro e w9 ⟨rfl, b9⟩
       go_wp2_with fail
       go_ret
       exact ⟨rfl, bnext (bnext tw hbq) b9⟩
end Go.Proofs.YtngpopalpofhgaaGreatDoor

namespace Go.Proofs.YtngpopalpofhgaaGreatDoor
open Go.RowKit
set_option maxHeartbeats 8000000
set_option maxRecDepth 100000
theorem TopGrommetBack_any (n : Int) (ad : Option Addr) (cap : Nat) (l : List PassV) (w : World) (hS : PassesR w ad cap l) :
  Calls Tryz.prog 4 #[.int .i64 n, .slice ad l.length cap] w fun r w' => r = .returned (.bool true) ∧ Below w.heap.size w w' := by
 have hcap := hS.le
 have hmx := hS.max
 by_cases hn : n ≤ 6
 case neg =>
  have d : decide (6 < n) = true := decide_eq_true (by omega)
  have HG := hid grommetPlaits_any
  clear hn
  go_enter Tryz.func4, Tryz.ntmps4
  go_wp2_with fail
  refine (HG.out w).mono ?_
  rintro e w1 ⟨rfl, b1⟩
  go_wp2_with fail
  go_ret
  exact ⟨rfl, b1⟩
 by_cases hl : l.length ≤ 6
 case neg =>
  have d : decide (6 < n) = false := decide_eq_false (by omega)
  have d2 : decide (6 < (l.length : Int)) = true := decide_eq_true (by omega)
  have HG := hid grommetPlaits_any
  clear hn hl
  go_enter Tryz.func4, Tryz.ntmps4
  go_wp2_with fail
  refine (HG.out w).mono ?_
  rintro e w1 ⟨rfl, b1⟩
  go_wp2_with fail
  go_ret
  exact ⟨rfl, b1⟩
 have d : decide (6 < n) = false := decide_eq_false (by omega)
 have d2 : decide (6 < (l.length : Int)) = false := decide_eq_false (by omega)
 have CS := rShortPasses_any ad cap l w hS
 by_cases hs : shortPB l = true
 case neg =>
  have hs2 : shortPB l = false := by simpa using hs
  rw [hs2] at CS
  have HS := hid CS
  have HG := hid grommetPlaits_any
  clear hs hs2 CS
  go_enter Tryz.func4, Tryz.ntmps4
  go_wp2_with fail
  refine (HS.out).mono ?_
  rintro e w1 ⟨rfl, b1⟩
  go_wp2_with fail
  refine (HG.out w1).mono ?_
  rintro e w2 ⟨rfl, b2⟩
  go_wp2_with fail
  go_ret
  exact ⟨rfl, (bnext b1 b2)⟩
 have hway : ∀ p ∈ l, p.way.size ≤ 1048576 := fun p hp => by
  unfold shortPB at hs
  rw [Bool.and_eq_true, List.all_eq_true] at hs
  have := of_decide_eq_true (hs.2 p hp)
  omega
 by_cases hE : passesE n l = 0
 ·exact gb_main n ad cap l w hS hn hl hs hE
 ·have CC := fun w (hS : PassesR w ad cap l) => rCheckPasses_any n ad cap l w hS (by omega) hway
  rw [hs] at CS
  have HS := hid CS; have HC := hid CC
  obtain ⟨E, hEE⟩ : ∃ E, E = passesE n l := ⟨_, rfl⟩
  rw [← hEE] at HC hE
  have dE : (E != 0) = true := by simp [hE]
  have HG := hid grommetPlaits_any
  clear hEE hway hs CS CC
  go_enter Tryz.func4, Tryz.ntmps4
  go_wp2_with fail
  refine (HS.out).mono ?_
  rintro e w1 ⟨rfl, b1⟩
  go_wp2_with fail
  refine (HC.out w1 (hS.below b1)).mono ?_
  rintro e w2 ⟨rfl, b2⟩
  go_wp2_with fail
  refine (HG.out w2).mono ?_
  rintro e w3 ⟨rfl, b3⟩
  go_wp2_with fail
  go_ret
  exact ⟨rfl, (bnext (bnext b1 b2) b3)⟩
end Go.Proofs.YtngpopalpofhgaaGreatDoor
