/- Contracts and plain facts that the claim uses (Hr OpW). Conditions: as each one states. -/
import Derived.Test.YtglpfpdomnllkaaGreatProg
import Derived.WalkKit
import Derived.WalkSpells
import Derived.Maps.AppendAt
import Derived.Deep.Quiet
import Derived.Maps.Own
import Derived.Maps.OwnSet
import Derived.Maps.Views
import Derived.WalkLawsBesides
import Derived.Laws.EntriesVeiled
import Derived.Deep.QuietTactic
import Derived.BigQuiet
import Derived.Deep.RegionHeld3
import Derived.Deep.AppendLies
import Derived.Deep.RegionHeldLaw
import Derived.Deep.RegionLaw
import Derived.RangeFuncNested
import Derived.RangeFuncBound
import Derived.RangeFuncCalls
import Derived.RangeFuncLeaves
import Derived.RangeFuncFrom
import Derived.Shelf.Abstract
import Derived.Shelf.RegionOpen
import Derived.OwnWalkIn
import Derived.TacticsInMore
import Derived.LoopNIn
import Derived.LoopIn
import Derived.Shelf.Strings.Trim
import Derived.Shelf.Strings.SlTrimAscii
import Derived.Shelf.Strings.Repeat
import Derived.Shelf.Strings.OnBuilder
import Derived.Shelf.Strconv.Itoa1
import Derived.Shelf.Strconv.Itoa3
import Derived.Shelf.LaysM
import Derived.Ground.Names2Prog
import Derived.Lib.OthersKept
import Derived.StillTail
import Derived.Laws.Tables
import Derived.IntWalk
import Derived.Laws.CopyOwn
import Derived.BigRegion
import Derived.ChangeAlike
import Derived.Shelf.Bits.Mul64
import Derived.Lib.ItoaLen
import Derived.Lib.ItoaMem
import Derived.Sort.LoopGhostIn
import Derived.Maps.RangeWalk
import Derived.Maps.Ext
import Derived.Deep.LoopGhost
import Derived.Laws.IdiomStrings
import Derived.Sort.QuietThIn
import Derived.Lib.Split
import Derived.Lib.AtoiAll
import Derived.Lib.AppendIntMem
import Derived.Lib.SmallJoins
import Derived.LaidSub
import Derived.Lib.LaidTab
import Derived.Lib.AtoiErrMem
import Derived.Stop.LaidErr
import Derived.ReadAgain
import Derived.ChangeSlices
import Derived.OpenShut
import Derived.ProofKit
import Derived.Deep.DeepHandedRow
import Derived.Deep.SlicePairs
import Derived.Lib.AppendZeros
import Derived.WideKeyPair
import Derived.Test.YtglpfpdomnllkaaGreatXz01
import Derived.Test.YtglpfpdomnllkaaGreatXz02
import Derived.Test.YtglpfpdomnllkaaGreatXz03
import Derived.Test.YtglpfpdomnllkaaGreatXz04
import Derived.Test.YtglpfpdomnllkaaGreatXz05
import Derived.Test.YtglpfpdomnllkaaGreatXz06
import Derived.Test.YtglpfpdomnllkaaGreatXz07
import Derived.Test.YtglpfpdomnllkaaGreatXz08
import Derived.Test.YtglpfpdomnllkaaGreatXz09
import Derived.Test.YtglpfpdomnllkaaGreatXz10
import Derived.Test.YtglpfpdomnllkaaGreatXz11
import Derived.Test.YtglpfpdomnllkaaGreatXz12
import Derived.Test.YtglpfpdomnllkaaGreatY7701
import Derived.Test.YtglpfpdomnllkaaGreatY7702
import Derived.Test.YtglpfpdomnllkaaGreatY7703
set_option linter.all false

namespace Go.Proofs.YtglpfpdomnllkaaGreat
open Go.RowKit
set_option maxHeartbeats 8000000
set_option maxRecDepth 100000
theorem hr_out0 (m : MacV) (ad al : Option Addr) (cap cl : Nat) (l : List Int) (x y : Int) (w : World) (hR : Ints w ad cap m.sw) (hL : Ints w al cl l) (hI : InI m.gears) (h0 : x < 0) :
  Calls Tryz.prog 5 #[mV m ad cap, .slice al l.length cl, .agg #[.int .i64 x, .int .i64 y]] w fun r w' => r = .returned (.bool true) ∧ Below w.heap.size w w' := by
 have hS0 := ((SL.nil w).box (.cells (mC m ad cap) 24)).box (.cells #[.int .i64 x, .int .i64 y] 60)
 simp only [World.size_alloc] at hS0
 have HHW := hid hawserWeaves_any
 have hlc := hL.le
 have hlm := hL.max
 have d1 : decide (x < 0) = true := decide_eq_true (by omega)
 clear h0
 go_enter Tryz.func5, Tryz.ntmps5
 go_wp2_with (first | (with_reducible refine wpList_ldS (n := 4) (us := mC m ad cap) A_mach kR wU wU (by assumption) wU wU ?_) | (with_reducible refine wpList_ldB (by first | exact F_int | fail) wU wU (by assumption) wU ?_))
 refine (HHW.out _).mono ?_
 rintro e w1 ⟨rfl, b1⟩
 go_wp2_with fail
 go_ret
 exact ⟨rfl, bnext hS0.b b1⟩
theorem hr_out1 (m : MacV) (ad al : Option Addr) (cap cl : Nat) (l : List Int) (x y : Int) (w : World) (hR : Ints w ad cap m.sw) (hL : Ints w al cl l) (hI : InI m.gears) (h0 : ¬ x < 0) (h1 : y < 0) :
  Calls Tryz.prog 5 #[mV m ad cap, .slice al l.length cl, .agg #[.int .i64 x, .int .i64 y]] w fun r w' => r = .returned (.bool true) ∧ Below w.heap.size w w' := by
 have hS0 := ((SL.nil w).box (.cells (mC m ad cap) 24)).box (.cells #[.int .i64 x, .int .i64 y] 60)
 simp only [World.size_alloc] at hS0
 have HHW := hid hawserWeaves_any
 have hlc := hL.le
 have hlm := hL.max
 have d2 : decide (x < 0) = false := decide_eq_false (by omega)
 have d3 : decide (y < 0) = true := decide_eq_true (by omega)
 clear h0 h1
 go_enter Tryz.func5, Tryz.ntmps5
 go_wp2_with (first | (with_reducible refine wpList_ldS (n := 4) (us := mC m ad cap) A_mach kR wU wU (by assumption) wU wU ?_) | (with_reducible refine wpList_ldB (by first | exact F_int | fail) wU wU (by assumption) wU ?_))
 refine (HHW.out _).mono ?_
 rintro e w1 ⟨rfl, b1⟩
 go_wp2_with fail
 go_ret
 exact ⟨rfl, bnext hS0.b b1⟩
theorem hr_out2 (m : MacV) (ad al : Option Addr) (cap cl : Nat) (l : List Int) (x y : Int) (w : World) (hR : Ints w ad cap m.sw) (hL : Ints w al cl l) (hI : InI m.gears) (h0 : ¬ x < 0) (h1 : ¬ y < 0) (h2 : 24 < x) :
  Calls Tryz.prog 5 #[mV m ad cap, .slice al l.length cl, .agg #[.int .i64 x, .int .i64 y]] w fun r w' => r = .returned (.bool true) ∧ Below w.heap.size w w' := by
 have hS0 := ((SL.nil w).box (.cells (mC m ad cap) 24)).box (.cells #[.int .i64 x, .int .i64 y] 60)
 simp only [World.size_alloc] at hS0
 have HHW := hid hawserWeaves_any
 have hlc := hL.le
 have hlm := hL.max
 have d4 : decide (x < 0) = false := decide_eq_false (by omega)
 have d5 : decide (y < 0) = false := decide_eq_false (by omega)
 have d6 : decide (24 < x) = true := decide_eq_true (by omega)
 clear h0 h1 h2
 go_enter Tryz.func5, Tryz.ntmps5
 go_wp2_with (first | (with_reducible refine wpList_ldS (n := 4) (us := mC m ad cap) A_mach kR wU wU (by assumption) wU wU ?_) | (with_reducible refine wpList_ldB (by first | exact F_int | fail) wU wU (by assumption) wU ?_))
 refine (HHW.out _).mono ?_
 rintro e w1 ⟨rfl, b1⟩
 go_wp2_with fail
 go_ret
 exact ⟨rfl, bnext hS0.b b1⟩
theorem hr_out3 (m : MacV) (ad al : Option Addr) (cap cl : Nat) (l : List Int) (x y : Int) (w : World) (hR : Ints w ad cap m.sw) (hL : Ints w al cl l) (hI : InI m.gears) (h0 : ¬ x < 0) (h1 : ¬ y < 0) (h2 : ¬ 24 < x) (h3 : 24 < y) :
  Calls Tryz.prog 5 #[mV m ad cap, .slice al l.length cl, .agg #[.int .i64 x, .int .i64 y]] w fun r w' => r = .returned (.bool true) ∧ Below w.heap.size w w' := by
 have hS0 := ((SL.nil w).box (.cells (mC m ad cap) 24)).box (.cells #[.int .i64 x, .int .i64 y] 60)
 simp only [World.size_alloc] at hS0
 have HHW := hid hawserWeaves_any
 have hlc := hL.le
 have hlm := hL.max
 have d7 : decide (x < 0) = false := decide_eq_false (by omega)
 have d8 : decide (y < 0) = false := decide_eq_false (by omega)
 have d9 : decide (24 < x) = false := decide_eq_false (by omega)
 have d10 : decide (24 < y) = true := decide_eq_true (by omega)
 clear h0 h1 h2 h3
 go_enter Tryz.func5, Tryz.ntmps5
 go_wp2_with (first | (with_reducible refine wpList_ldS (n := 4) (us := mC m ad cap) A_mach kR wU wU (by assumption) wU wU ?_) | (with_reducible refine wpList_ldB (by first | exact F_int | fail) wU wU (by assumption) wU ?_))
 refine (HHW.out _).mono ?_
 rintro e w1 ⟨rfl, b1⟩
 go_wp2_with fail
 go_ret
 exact ⟨rfl, bnext hS0.b b1⟩
theorem hr_unmade (m : MacV) (ad al : Option Addr) (cap cl : Nat) (l : List Int) (x y : Int) (w : World) (hR : Ints w ad cap m.sw) (hL : Ints w al cl l) (hI : InI m.gears) (h0 : ¬ x < 0) (h1 : ¬ y < 0) (h2 : ¬ 24 < x) (h3 : ¬ 24 < y) (hM : ¬ Made m l x) :
  Calls Tryz.prog 5 #[mV m ad cap, .slice al l.length cl, .agg #[.int .i64 x, .int .i64 y]] w fun r w' => r = .returned (.bool true) ∧ Below w.heap.size w w' := by
 have hS0 := ((SL.nil w).box (.cells (mC m ad cap) 24)).box (.cells #[.int .i64 x, .int .i64 y] 60)
 simp only [World.size_alloc] at hS0
 have HHW := hid hawserWeaves_any
 have hlc := hL.le
 have hlm := hL.max
 have d11 : decide (x < 0) = false := decide_eq_false (by omega)
 have d12 : decide (y < 0) = false := decide_eq_false (by omega)
 have d13 : decide (24 < x) = false := decide_eq_false (by omega)
 have d14 : decide (24 < y) = false := decide_eq_false (by omega)
 have HMA := hid (fun w h h2 => made_no m ad al cap cl l x w h h2 hM)
 clear hM h0 h1 h2 h3
 go_enter Tryz.func5, Tryz.ntmps5
 go_wp2_with (first | (with_reducible refine wpList_ldS (n := 4) (us := mC m ad cap) A_mach kR wU wU (by assumption) wU wU ?_) | (with_reducible refine wpList_ldB (by first | exact F_int | fail) wU wU (by assumption) wU ?_))
 refine (HMA.out _ (hR.below hS0.b) (hL.below hS0.b)).mono ?_
 rintro e w1 ⟨rfl, b1⟩
 have hS1 := hS0.mono b1
 have qn := (hS1.blk 0 rfl).1
 have qm := (hS1.blk 1 rfl).1
 have t1 := hS1.b
 clear hS0 hS1 b1
 go_wp2_with (first | (with_reducible refine wpList_ldS (n := 4) (us := mC m ad cap) A_mach kR wU wU (by assumption) wU wU ?_) | (with_reducible refine wpList_ldB (by first | exact F_int | fail) wU wU (by assumption) wU ?_))
 refine (HHW.out _).mono ?_
 rintro e w2 ⟨rfl, b2⟩
 replace qm := (b2.block _ (Array.getElem?_eq_some_iff.1 qm).1).trans qm
 replace qn := (b2.block _ (Array.getElem?_eq_some_iff.1 qn).1).trans qn
 have t2 := bnext t1 b2
 clear t1 b2
 go_wp2_with fail
 go_ret
 exact ⟨rfl, t2⟩
theorem hr_gears (m : MacV) (ad al : Option Addr) (cap cl : Nat) (l : List Int) (x y : Int) (w : World) (hR : Ints w ad cap m.sw) (hL : Ints w al cl l) (hI : InI m.gears) (h0 : ¬ x < 0) (h1 : ¬ y < 0) (h2 : ¬ 24 < x) (h3 : ¬ 24 < y) (hM : Made m l x) (hg : 4 < m.gears) :
  Calls Tryz.prog 5 #[mV m ad cap, .slice al l.length cl, .agg #[.int .i64 x, .int .i64 y]] w fun r w' => r = .returned (.bool true) ∧ Below w.heap.size w w' := by
 have hS0 := ((SL.nil w).box (.cells (mC m ad cap) 24)).box (.cells #[.int .i64 x, .int .i64 y] 60)
 simp only [World.size_alloc] at hS0
 have HHW := hid hawserWeaves_any
 have hlc := hL.le
 have hlm := hL.max
 have d11 : decide (x < 0) = false := decide_eq_false (by omega)
 have d12 : decide (y < 0) = false := decide_eq_false (by omega)
 have d13 : decide (24 < x) = false := decide_eq_false (by omega)
 have d14 : decide (24 < y) = false := decide_eq_false (by omega)
 have d15 : decide (4 < m.gears) = true := decide_eq_true (by omega)
 have HMA := hid (fun w h h2 => made_ok m ad al cap cl l x w h h2 hM.1 hM.2.1 hM.2.2.1 hM.2.2.2.1 hM.2.2.2.2.1 hM.2.2.2.2.2)
 clear hM h0 h1 h2 h3 hg
 go_enter Tryz.func5, Tryz.ntmps5
 go_wp2_with (first | (with_reducible refine wpList_ldS (n := 4) (us := mC m ad cap) A_mach kR wU wU (by assumption) wU wU ?_) | (with_reducible refine wpList_ldB (by first | exact F_int | fail) wU wU (by assumption) wU ?_))
 refine (HMA.out _ (hR.below hS0.b) (hL.below hS0.b)).mono ?_
 rintro e w1 ⟨rfl, b1⟩
 have hS1 := hS0.mono b1
 have qn := (hS1.blk 0 rfl).1
 have qm := (hS1.blk 1 rfl).1
 have t1 := hS1.b
 clear hS0 hS1 b1
 go_wp2_with (first | (with_reducible refine wpList_ldS (n := 4) (us := mC m ad cap) A_mach kR wU wU (by assumption) wU wU ?_) | (with_reducible refine wpList_ldB (by first | exact F_int | fail) wU wU (by assumption) wU ?_))
 refine (HHW.out _).mono ?_
 rintro e w2 ⟨rfl, b2⟩
 replace qm := (b2.block _ (Array.getElem?_eq_some_iff.1 qm).1).trans qm
 replace qn := (b2.block _ (Array.getElem?_eq_some_iff.1 qn).1).trans qn
 have t2 := bnext t1 b2
 clear t1 b2
 go_wp2_with fail
 go_ret
 exact ⟨rfl, t2⟩
theorem hr_many (m : MacV) (ad al : Option Addr) (cap cl : Nat) (l : List Int) (x y : Int) (w : World) (hR : Ints w ad cap m.sw) (hL : Ints w al cl l) (hI : InI m.gears) (h0 : ¬ x < 0) (h1 : ¬ y < 0) (h2 : ¬ 24 < x) (h3 : ¬ 24 < y) (hM : Made m l x) (hg : ¬ 4 < m.gears) (hl : 4 < l.length) :
  Calls Tryz.prog 5 #[mV m ad cap, .slice al l.length cl, .agg #[.int .i64 x, .int .i64 y]] w fun r w' => r = .returned (.bool true) ∧ Below w.heap.size w w' := by
 have hS0 := ((SL.nil w).box (.cells (mC m ad cap) 24)).box (.cells #[.int .i64 x, .int .i64 y] 60)
 simp only [World.size_alloc] at hS0
 have HHW := hid hawserWeaves_any
 have hlc := hL.le
 have hlm := hL.max
 have d11 : decide (x < 0) = false := decide_eq_false (by omega)
 have d12 : decide (y < 0) = false := decide_eq_false (by omega)
 have d13 : decide (24 < x) = false := decide_eq_false (by omega)
 have d14 : decide (24 < y) = false := decide_eq_false (by omega)
 have d16 : decide (4 < m.gears) = false := decide_eq_false (by omega)
 have d17 : decide (4 < (l.length : Int)) = true := decide_eq_true (by omega)
 have HMA := hid (fun w h h2 => made_ok m ad al cap cl l x w h h2 hM.1 hM.2.1 hM.2.2.1 hM.2.2.2.1 hM.2.2.2.2.1 hM.2.2.2.2.2)
 clear hM h0 h1 h2 h3 hg hl
 go_enter Tryz.func5, Tryz.ntmps5
 go_wp2_with (first | (with_reducible refine wpList_ldS (n := 4) (us := mC m ad cap) A_mach kR wU wU (by assumption) wU wU ?_) | (with_reducible refine wpList_ldB (by first | exact F_int | fail) wU wU (by assumption) wU ?_))
 refine (HMA.out _ (hR.below hS0.b) (hL.below hS0.b)).mono ?_
 rintro e w1 ⟨rfl, b1⟩
 have hS1 := hS0.mono b1
 have qn := (hS1.blk 0 rfl).1
 have qm := (hS1.blk 1 rfl).1
 have t1 := hS1.b
 clear hS0 hS1 b1
 go_wp2_with (first | (with_reducible refine wpList_ldS (n := 4) (us := mC m ad cap) A_mach kR wU wU (by assumption) wU wU ?_) | (with_reducible refine wpList_ldB (by first | exact F_int | fail) wU wU (by assumption) wU ?_))
 refine (HHW.out _).mono ?_
 rintro e w2 ⟨rfl, b2⟩
 replace qm := (b2.block _ (Array.getElem?_eq_some_iff.1 qm).1).trans qm
 replace qn := (b2.block _ (Array.getElem?_eq_some_iff.1 qn).1).trans qn
 have t2 := bnext t1 b2
 clear t1 b2
 go_wp2_with fail
 go_ret
 exact ⟨rfl, t2⟩
theorem hr_meet (m : MacV) (ad al : Option Addr) (cap cl : Nat) (l : List Int) (x y : Int) (w : World) (hR : Ints w ad cap m.sw) (hL : Ints w al cl l) (hI : InI m.gears) (h0 : ¬ x < 0) (h1 : ¬ y < 0) (h2 : ¬ 24 < x) (h3 : ¬ 24 < y) (hM : Made m l x) (hg : ¬ 4 < m.gears) (hl : ¬ 4 < l.length) (hme : meetsM m l (x + y) = true) :
  Calls Tryz.prog 5 #[mV m ad cap, .slice al l.length cl, .agg #[.int .i64 x, .int .i64 y]] w fun r w' => r = .returned (.bool true) ∧ Below w.heap.size w w' := by
 have hS0 := ((SL.nil w).box (.cells (mC m ad cap) 24)).box (.cells #[.int .i64 x, .int .i64 y] 60)
 simp only [World.size_alloc] at hS0
 have HHW := hid hawserWeaves_any
 have hlc := hL.le
 have hlm := hL.max
 have d11 : decide (x < 0) = false := decide_eq_false (by omega)
 have d12 : decide (y < 0) = false := decide_eq_false (by omega)
 have d13 : decide (24 < x) = false := decide_eq_false (by omega)
 have d14 : decide (24 < y) = false := decide_eq_false (by omega)
 have d18 : decide (4 < m.gears) = false := decide_eq_false (by omega)
 have d19 : decide (4 < (l.length : Int)) = false := decide_eq_false (by omega)
 have HMA := hid (fun w h h2 => made_ok m ad al cap cl l x w h h2 hM.1 hM.2.1 hM.2.2.1 hM.2.2.2.1 hM.2.2.2.2.1 hM.2.2.2.2.2)
 have hlk := loadE_zero hM.1.2.2.2
 have CME := fun w h h2 => rMeets_any m ad cap al cl l (x + y) w h h2 hlk.ok.lo hlk.ok.hi hlk.rng (by omega) hlk.nodup
 rw [hme] at CME
 have hAB : IntKind.i64.wrap (x + y) = x + y := IntWalk.i64_in _ (by omega)
 have HME := hid CME
 clear CME hlk hM h0 h1 h2 h3 hg hl hme
 go_enter Tryz.func5, Tryz.ntmps5
 go_wp2_with (first | (with_reducible refine wpList_ldS (n := 4) (us := mC m ad cap) A_mach kR wU wU (by assumption) wU wU ?_) | (with_reducible refine wpList_ldB (by first | exact F_int | fail) wU wU (by assumption) wU ?_))
 refine (HMA.out _ (hR.below hS0.b) (hL.below hS0.b)).mono ?_
 rintro e w1 ⟨rfl, b1⟩
 have hS1 := hS0.mono b1
 have qn := (hS1.blk 0 rfl).1
 have qm := (hS1.blk 1 rfl).1
 have t1 := hS1.b
 clear hS0 hS1 b1
 go_wp2_with (first | (with_reducible refine wpList_ldS (n := 4) (us := mC m ad cap) A_mach kR wU wU (by assumption) wU wU ?_) | (with_reducible refine wpList_ldB (by first | exact F_int | fail) wU wU (by assumption) wU ?_))
 refine (HME.out _ (hR.below t1) (hL.below t1)).mono ?_
 rintro e w2 ⟨rfl, b2⟩
 replace qm := (b2.block _ (Array.getElem?_eq_some_iff.1 qm).1).trans qm
 replace qn := (b2.block _ (Array.getElem?_eq_some_iff.1 qn).1).trans qn
 have t2 := bnext t1 b2
 clear t1 b2
 go_wp2_with (first | (with_reducible refine wpList_ldS (n := 4) (us := mC m ad cap) A_mach kR wU wU (by assumption) wU wU ?_) | (with_reducible refine wpList_ldB (by first | exact F_int | fail) wU wU (by assumption) wU ?_))
 refine (HHW.out _).mono ?_
 rintro e w3 ⟨rfl, b3⟩
 replace qm := (b3.block _ (Array.getElem?_eq_some_iff.1 qm).1).trans qm
 replace qn := (b3.block _ (Array.getElem?_eq_some_iff.1 qn).1).trans qn
 have t3 := bnext t2 b3
 clear t2 b3
 go_wp2_with fail
 go_ret
 exact ⟨rfl, t3⟩
theorem TopHawserRepeats_any (m : MacV) (ad al : Option Addr) (cap cl : Nat) (l : List Int) (x y : Int) (w : World) (hR : Ints w ad cap m.sw) (hL : Ints w al cl l) (hI : InI m.gears) (hx : InI x) (hy : InI y) :
  Calls Tryz.prog 5 #[mV m ad cap, .slice al l.length cl, .agg #[.int .i64 x, .int .i64 y]] w fun r w' => r = .returned (.bool true) ∧ Below w.heap.size w w' := by
 by_cases h0 : x < 0
 ·exact hr_out0 m ad al cap cl l x y w hR hL hI h0
 ·by_cases h1 : y < 0
  ·exact hr_out1 m ad al cap cl l x y w hR hL hI h0 h1
  ·by_cases h2 : 24 < x
   ·exact hr_out2 m ad al cap cl l x y w hR hL hI h0 h1 h2
   ·by_cases h3 : 24 < y
    ·exact hr_out3 m ad al cap cl l x y w hR hL hI h0 h1 h2 h3
    ·by_cases hM : Made m l x
     ·by_cases hg : 4 < m.gears
      ·exact hr_gears m ad al cap cl l x y w hR hL hI h0 h1 h2 h3 hM hg
      ·by_cases hl : 4 < l.length
       ·exact hr_many m ad al cap cl l x y w hR hL hI h0 h1 h2 h3 hM hg hl
       ·cases hme : meetsM m l (x + y)
        ·exact hr_main m ad al cap cl l x y w hR hL hI h0 h1 h3 hM (by omega) (by omega) hme
        ·exact hr_meet m ad al cap cl l x y w hR hL hI h0 h1 h2 h3 hM hg hl hme
     ·exact hr_unmade m ad al cap cl l x y w hR hL hI h0 h1 h2 h3 hM
end Go.Proofs.YtglpfpdomnllkaaGreat

namespace Go.Proofs.YtglpfpdomnllkaaGreat
open Go.RowKit Go.ChangeShapes Go.WideShapes Go.ChangeAt Go.Joins Go.Deep Go.WideMaps
set_option maxRecDepth 100000
theorem arr2 : ArrKey Tryz.prog 60 3 2 := ⟨by kernel_rfl, by kernel_rfl, by kernel_rfl, by kernel_rfl⟩
section
variable {H : Type} {enc : TypeId × Value → H} {W : World}
theorem open_arr2A {r : Reach} {b0 : Nat} {v : Value} {d : DataW H} {ps : List MemPlace} (hval : Value.okWide Tryz.prog W r b0 60 v) (h : DataW.Trod enc Tryz.prog W 0 (fun _ => true) true 60 v d ps) :
  ∃ x y : Int, v = .agg #[.int .i64 x, .int .i64 y] ∧ InI x ∧ InI y := by
 obtain ⟨a, b, h1, _, _, h2, h3⟩ := open_pair arr2 Tryz.underlying3 hval h
 exact ⟨a, b, h1, inI_wf h2, inI_wf h3⟩
end
end Go.Proofs.YtglpfpdomnllkaaGreat
