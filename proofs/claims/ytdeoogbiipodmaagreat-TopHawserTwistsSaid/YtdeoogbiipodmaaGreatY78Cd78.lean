/- The row and the card of TopHawserTwists. No condition. -/
import Derived.Test.YtdeoogbiipodmaaGreatRows
import Derived.Test.YtdeoogbiipodmaaGreatChecked
import Derived.WalkKit
import Derived.ProofKit
import Derived.OpenShut
import Derived.Deep.DeepHandedRow
import Derived.Test.YtdeoogbiipodmaaGreatProg
import Derived.WalkSpells
import Derived.Maps.AppendAt
import Derived.Deep.Quiet
import Derived.Maps.Own
import Derived.Maps.OwnSet
import Derived.Maps.Views
import Derived.WalkLawsBesides
import Derived.Laws.EntriesVeiled
import Derived.ReadAgain
import Derived.ChangeSlices
import Derived.Lib.SmallJoins
import Derived.Deep.SlicePairs
import Derived.Deep.QuietTactic
import Derived.BigQuiet
import Derived.Lib.OthersKept
import Derived.Deep.RegionHeld3
import Derived.Deep.AppendLies
import Derived.Deep.RegionHeldLaw
import Derived.Deep.RegionLaw
import Derived.RangeFuncNested
import Derived.RangeFuncBound
import Derived.RangeFuncCalls
import Derived.RangeFuncLeaves
import Derived.RangeFuncFrom
import Derived.Shelf.Abstract
import Derived.Shelf.RegionOpen
import Derived.OwnWalkIn
import Derived.TacticsInMore
import Derived.LoopNIn
import Derived.LoopIn
import Derived.Shelf.Strings.Trim
import Derived.Shelf.Strings.SlTrimAscii
import Derived.Shelf.Strings.Repeat
import Derived.Shelf.Strings.OnBuilder
import Derived.Shelf.Strconv.Itoa1
import Derived.Shelf.Strconv.Itoa3
import Derived.Shelf.LaysM
import Derived.Ground.Names2Prog
import Derived.StillTail
import Derived.Laws.Tables
import Derived.IntWalk
import Derived.Laws.CopyOwn
import Derived.BigRegion
import Derived.ChangeAlike
import Derived.Shelf.Bits.Mul64
import Derived.Lib.ItoaLen
import Derived.Lib.ItoaMem
import Derived.Sort.LoopGhostIn
import Derived.Maps.RangeWalk
import Derived.Maps.Ext
import Derived.Deep.LoopGhost
import Derived.Laws.IdiomStrings
import Derived.Sort.QuietThIn
import Derived.Lib.Split
import Derived.Lib.AtoiAll
import Derived.Lib.AppendIntMem
import Derived.LaidSub
import Derived.Lib.LaidTab
import Derived.Lib.AtoiErrMem
import Derived.Stop.LaidErr
import Derived.Lib.SliceRun
import Derived.Shelf.Spec.SlicesInsertGrow
import Derived.Lib.AppendZeros
import Derived.Test.YtdeoogbiipodmaaGreatXz01
import Derived.Test.YtdeoogbiipodmaaGreatXz02
import Derived.Test.YtdeoogbiipodmaaGreatXz03
import Derived.Test.YtdeoogbiipodmaaGreatXz04
import Derived.Test.YtdeoogbiipodmaaGreatXz05
import Derived.Test.YtdeoogbiipodmaaGreatXz06
import Derived.Test.YtdeoogbiipodmaaGreatXz07
import Derived.Test.YtdeoogbiipodmaaGreatXz08
import Derived.Test.YtdeoogbiipodmaaGreatXz09
import Derived.Test.YtdeoogbiipodmaaGreatXz10
import Derived.Test.YtdeoogbiipodmaaGreatY7801
import Derived.Test.YtdeoogbiipodmaaGreatY7802
import Derived.Test.YtdeoogbiipodmaaGreatY7803
import Derived.Test.YtdeoogbiipodmaaGreatY7804
import Derived.Test.YtdeoogbiipodmaaGreatY7805
import Derived.Test.YtdeoogbiipodmaaGreatY7806
import Derived.Test.YtdeoogbiipodmaaGreatY7807
import Derived.Test.YtdeoogbiipodmaaGreatY78Fd78

set_option linter.all false
namespace Go.Proofs.YtdeoogbiipodmaaGreat.topHawserTwists
open Go.ChangeShapes Go.WideShapes Go.ChangeAt Go.RowKit
set_option maxRecDepth 100000

theorem contract (H : Type) (enc : TypeId × Value → H) (W : World) (base : Nat) (args : Array Value) (ds gs : List (DataW H)) (before : List MemPlace)
  (hval : ∀ (j : Nat) t v, Tryz.f3.params[j]? = some t → args[j]? = some v → Value.okWide Tryz.prog W .any base t v)
  (hW : DataW.Whole enc Tryz.prog Tryz.f3.params.toList Rows.topHawserTwistsSpec.vars false W args.toList ds gs before) :
  Calls Tryz.prog 3 args W fun e W' => ∃ v, e = .returned v ∧ Rows.topHawserTwistsSpec.post enc Tryz.prog Tryz.f3 false true false false W args v W' := by
 have hW' := hW
 obtain ⟨p, q, hA0, hV, rfl, hfz, hnd⟩ := hW
 have hA : DataW.TrodAll enc Tryz.prog W 0 (fun _ => true) true Tryz.f3.params.toList args.toList ds p := hA0
 rw [Tryz.params3] at hA hval
 obtain ⟨v0, vs0, d0, ds0, p0, q0, hargs0, rfl, rfl, h0, r0⟩ := trodAll_cons hA
 obtain ⟨v1, vs1, d1, ds1, p1, q1, hargs1, rfl, rfl, h1, r1⟩ := trodAll_cons r0
 obtain ⟨v2, vs2, d2, ds2, p2, q2, hargs2, rfl, rfl, h2, r2⟩ := trodAll_cons r1
 obtain ⟨rfl, rfl, rfl⟩ := trodAll_nil r2
 obtain rfl : args = #[v0, v1, v2] := by cases args; simp_all
 obtain ⟨x0, rfl, hx0⟩ := open_intA (hval 0 _ _ rfl rfl) h0
 obtain ⟨a1, c1, l1, rfl, hI1, hin1⟩ := open_intsA (hval 1 _ _ rfl rfl) h1
 obtain ⟨a2, c2, l2, rfl, hI2, hin2⟩ := open_intsA (hval 2 _ _ rfl rfl) h2
 refine (TopHawserTwists_any x0 a1 a2 c1 c2 l1 l2 W hI1 hI2).mono fun e W' ⟨he, hb⟩ => ?_
 subst he
 exact ⟨_, rfl, law_post rfl (by kernel_rfl) (by rw [Tryz.params3]; decide +kernel) ⟨rfl, rfl, rfl⟩ hW' hb⟩

theorem laid_met (os : Os) : laidMet Tryz.prog Rows.topHawserTwistsRow.laid ((bareWorld os).forCall (fun _ _ => 0) ⟨#[], #[.int .i64 0, .slice none 0 0, .slice none 0 0], []⟩).memory :=
 laidMet_of_run' 8 (by kernel_rfl) (by kernel_rfl)
theorem reads (os : Os) {H : Type} (enc : TypeId × Value → H) : ∃ ds places, DataW.whole enc Tryz.prog ((bareWorld os).forCall (fun _ _ => 0) ⟨#[], #[.int .i64 0, .slice none 0 0, .slice none 0 0], []⟩).memory Tryz.f3.params.toList Rows.topHawserTwistsSpec.vars false (#[.int .i64 0, .slice none 0 0, .slice none 0 0] : Array Value).toList 8 = some (ds, [], places) :=
 ⟨[.lit (.int .i64 0), .nil, .nil], [], by kernel_rfl⟩
theorem lifted (os : Os) (started : os.Started) (H : Type) (enc : TypeId × Value → H) (F : Stop.Interp) :
  ReturnsInHanded {} Tryz.checked os 3 .any ((OpenSpec.ofChange Rows.topHawserTwistsSpec).preRow enc Tryz.prog Tryz.f3 Rows.topHawserTwistsRow.domain false Rows.topHawserTwistsRow.laid) (((OpenSpec.ofChange Rows.topHawserTwistsSpec).at F).post enc Tryz.prog Tryz.f3 false true false false) := by
 obtain ⟨ds, places, hx⟩ := reads os enc
 refine returnsInHanded_of_row (C := Tryz.checked) (s := OpenSpec.ofChange Rows.topHawserTwistsSpec) ownP started (by kernel_rfl) Tryz.func3
  (witness_row_at (enc := enc) (C := Tryz.checked) false (bareWorld os) #[.int .i64 0, .slice none 0 0, .slice none 0 0] rfl (by kernel_rfl) (by kernel_rfl) (by kernel_rfl)
   (OpenSpec.preRow_of_cond 8 hx (by kernel_rfl) (fun k hk => by cases hk) (by kernel_rfl) (laid_met os))) ?_
 intro W base args ds gs before hval hW _ _ _ hL _ _
 exact contract H enc W base args ds gs before hval hW
theorem said : Rows.TopHawserTwistsSaid :=
 OpenClaim.holds_of_cond 3 Tryz.f3 rfl rfl rfl rfl rfl rfl rfl ⟨rfl, rfl, rfl, rfl, rfl⟩ rfl rfl rfl rfl rfl named Tryz.func3 facts instance_ wrapper
  (fun os started H enc _ F => by rw [OpenClaim.pre_eq_preRow]; exact lifted os started H enc F)
end Go.Proofs.YtdeoogbiipodmaaGreat.topHawserTwists
