/- The row and the card of MachineCycles. No condition. -/
import Derived.Test.YtndmeaoidihikaaGreatDoorCards
import Derived.Test.YtndmeaoidihikaaGreatDoorTie
import Derived.WalkKit
import Derived.ProofKit
import Derived.OpenShut
import Derived.Deep.DeepHandedRow
import Derived.Test.YtndmeaoidihikaaGreatDoorProg
import Derived.WalkSpells
import Derived.Maps.AppendAt
import Derived.Deep.Quiet
import Derived.Maps.Own
import Derived.Maps.OwnSet
import Derived.Maps.Views
import Derived.WalkLawsBesides
import Derived.Laws.EntriesVeiled
import Derived.ReadAgain
import Derived.ChangeSlices
import Derived.Lib.SmallJoins
import Derived.Deep.SlicePairs
import Derived.Deep.QuietTactic
import Derived.BigQuiet
import Derived.Lib.OthersKept
import Derived.RangeFuncNested
import Derived.RangeFuncBound
import Derived.RangeFuncCalls
import Derived.RangeFuncLeaves
import Derived.RangeFuncFrom
import Derived.Shelf.Abstract
import Derived.Shelf.RegionOpen
import Derived.OwnWalkIn
import Derived.TacticsInMore
import Derived.LoopNIn
import Derived.LoopIn
import Derived.Shelf.Strings.Trim
import Derived.Shelf.Strings.SlTrimAscii
import Derived.Shelf.Strings.Repeat
import Derived.Shelf.Strings.OnBuilder
import Derived.Shelf.Strconv.Itoa1
import Derived.Shelf.Strconv.Itoa3
import Derived.Shelf.LaysM
import Derived.Ground.Names2Prog
import Derived.Deep.RegionHeld3
import Derived.Deep.AppendLies
import Derived.Deep.RegionHeldLaw
import Derived.Deep.RegionLaw
import Derived.StillTail
import Derived.Laws.Tables
import Derived.IntWalk
import Derived.Laws.CopyOwn
import Derived.BigRegion
import Derived.ChangeAlike
import Derived.Shelf.Bits.Mul64
import Derived.Lib.ItoaLen
import Derived.Lib.ItoaMem
import Derived.Sort.LoopGhostIn
import Derived.Maps.RangeWalk
import Derived.Deep.LoopGhost
import Derived.Lib.Split
import Derived.Lib.AtoiAll
import Derived.Shelf.Strconv.ErrVarAll
import Derived.Shelf.Strconv.AtoiAll
import Derived.Shelf.Strings.Cut
import Derived.Shelf.Strings.Split
import Derived.Shelf.Strings.SplitShaped
import Derived.Lib.AppendIntMem
import Derived.LaidSub
import Derived.Lib.LaidTab
import Derived.Lib.AtoiErrMem
import Derived.Maps.Ext
import Derived.Stop.LaidErr
import Derived.Lay
import Derived.Sort.QuietThIn
import Derived.Test.YtndmeaoidihikaaGreatDoorXz01
import Derived.Test.YtndmeaoidihikaaGreatDoorXz02
import Derived.Test.YtndmeaoidihikaaGreatDoorXz03
import Derived.Test.YtndmeaoidihikaaGreatDoorXz04
import Derived.Test.YtndmeaoidihikaaGreatDoorXz05
import Derived.Test.YtndmeaoidihikaaGreatDoorXz06
import Derived.Test.YtndmeaoidihikaaGreatDoorXz07
import Derived.Test.YtndmeaoidihikaaGreatDoorXz08
import Derived.Test.YtndmeaoidihikaaGreatDoorXz09
import Derived.Test.YtndmeaoidihikaaGreatDoorXz10
import Derived.Test.YtndmeaoidihikaaGreatDoorXz11
import Derived.Test.YtndmeaoidihikaaGreatDoorXz12
import Derived.Test.YtndmeaoidihikaaGreatDoorY4601
import Derived.Test.YtndmeaoidihikaaGreatDoorY4602
import Derived.Test.YtndmeaoidihikaaGreatDoorY4603
import Derived.Test.YtndmeaoidihikaaGreatDoorY4604
import Derived.Test.YtndmeaoidihikaaGreatDoorY46Fd46

set_option linter.all false
namespace Go.Proofs.YtndmeaoidihikaaGreatDoor.machineCycles
open Go.ChangeShapes Go.WideShapes Go.ChangeAt Go.RowKit
set_option maxRecDepth 100000

theorem contract (H : Type) (enc : TypeId × Value → H) (W : World) (hlib : LibW W) (base : Nat) (args : Array Value) (ds gs : List (DataW H)) (before : List MemPlace)
  (hval : ∀ (j : Nat) t v, Tryz.f3.params[j]? = some t → args[j]? = some v → Value.okWide Tryz.prog W .any base t v)
  (hW : DataW.Whole enc Tryz.prog Tryz.f3.params.toList Rows.machineCyclesSpec.vars false W args.toList ds gs before) :
  Calls Tryz.prog 3 args W fun e W' => ∃ v, e = .returned v ∧ Rows.machineCyclesSpec.post enc Tryz.prog Tryz.f3 false true false false W args v W' := by
 have hW' := hW
 obtain ⟨p, q, hA0, hV, rfl, hfz, hnd⟩ := hW
 have hA : DataW.TrodAll enc Tryz.prog W 0 (fun _ => true) true Tryz.f3.params.toList args.toList ds p := hA0
 rw [Tryz.params3] at hA hval
 obtain ⟨v0, vs0, d0, ds0, p0, q0, hargs0, rfl, rfl, h0, r0⟩ := trodAll_cons hA
 obtain ⟨v1, vs1, d1, ds1, p1, q1, hargs1, rfl, rfl, h1, r1⟩ := trodAll_cons r0
 obtain ⟨rfl, rfl, rfl⟩ := trodAll_nil r1
 obtain rfl : args = #[v0, v1] := by cases args; simp_all
 obtain ⟨m0, a0, c0, rfl, hI0, hg0, ht0, hs0⟩ := open_machA (hval 0 _ _ rfl rfl) h0
 obtain ⟨x1, rfl, hx1⟩ := open_intA (hval 1 _ _ rfl rfl) h1
 refine (MachineCycles_any m0 a0 c0 x1 W hI0 hg0 hx1 hlib).mono fun e W' ⟨he, hb⟩ => ?_
 subst he
 exact ⟨_, rfl, law_post rfl (by kernel_rfl) (by rw [Tryz.params3]; decide +kernel) ⟨rfl, rfl, rfl⟩ hW' hb⟩

theorem laid_met (os : Os) : laidMet Tryz.prog Rows.machineCyclesRow.laid ((World.laidAll Tryz.prog os Rows.machineCyclesRow.laid).forCall (fun _ _ => 0) ⟨#[], #[.agg #[.bool false, .int .i64 0, .int .i64 0, .slice none 0 0], .int .i64 0], []⟩).memory :=
 laidMet_laidAll _ (by kernel_rfl) (by kernel_rfl)
theorem reads (os : Os) {H : Type} (enc : TypeId × Value → H) : ∃ ds places, DataW.whole enc Tryz.prog ((World.laidAll Tryz.prog os Rows.machineCyclesRow.laid).forCall (fun _ _ => 0) ⟨#[], #[.agg #[.bool false, .int .i64 0, .int .i64 0, .slice none 0 0], .int .i64 0], []⟩).memory Tryz.f3.params.toList Rows.machineCyclesSpec.vars false (#[.agg #[.bool false, .int .i64 0, .int .i64 0, .slice none 0 0], .int .i64 0] : Array Value).toList 8 = some (ds, [], places) :=
 ⟨[.agg [.lit (.bool false), .lit (.int .i64 0), .lit (.int .i64 0), .nil], .lit (.int .i64 0)], [], by kernel_rfl⟩
theorem lifted (os : Os) (started : os.Started) (H : Type) (enc : TypeId × Value → H) (F : Stop.Interp) :
  ReturnsInHanded {} Tryz.checked os 3 .any ((OpenSpec.ofChange Rows.machineCyclesSpec).preRow enc Tryz.prog Tryz.f3 Rows.machineCyclesRow.domain false Rows.machineCyclesRow.laid) (((OpenSpec.ofChange Rows.machineCyclesSpec).at F).post enc Tryz.prog Tryz.f3 false true false false) := by
 obtain ⟨ds, places, hx⟩ := reads os enc
 refine returnsInHanded_of_row (C := Tryz.checked) (s := OpenSpec.ofChange Rows.machineCyclesSpec) ownP started (by kernel_rfl) Tryz.func3
  (witness_row_at (enc := enc) (C := Tryz.checked) false (World.laidAll Tryz.prog os Rows.machineCyclesRow.laid) #[.agg #[.bool false, .int .i64 0, .int .i64 0, .slice none 0 0], .int .i64 0] rfl (by kernel_rfl) (by kernel_rfl) (by kernel_rfl)
   (OpenSpec.preRow_of_cond 8 hx (by kernel_rfl) (fun k hk => by cases hk) (by kernel_rfl) (laid_met os))) ?_
 intro W base args ds gs before hval hW _ _ _ hL hsh _
 exact contract H enc W (libW_of (t1 := [105, 110, 118, 97, 108, 105, 100, 32, 115, 121, 110, 116, 97, 120]) (t2 := [118, 97, 108, 117, 101, 32, 111, 117, 116, 32, 111, 102, 32, 114, 97, 110, 103, 101]) hL hsh (by kernel_rfl) (by kernel_rfl) (by kernel_rfl)) base args ds gs before hval hW
theorem said : Rows.MachineCyclesSaid :=
 OpenClaim.holds_of_cond 3 Tryz.f3 rfl rfl rfl rfl rfl rfl rfl ⟨rfl, rfl, rfl, rfl, rfl⟩ rfl rfl rfl rfl rfl named Tryz.func3 facts instance_ wrapper
  (fun os started H enc _ F => by rw [OpenClaim.pre_eq_preRow]; exact lifted os started H enc F)
theorem looks_ : true = Tryz.pinned.checked.prog.looks [] := by kernel_rfl
theorem wants : (#[24, 3].all fun t => !Tryz.prog.wantsStandIn t) = true := by kernel_rfl
theorem plain (f : FuncId) (fn : Func) (hf : Tryz.pinned.checked.prog.funcNamed Rows.machineCyclesRow.func = some f) (hfn : Tryz.pinned.checked.prog.funcs[f]? = some fn) :
  true = Tryz.pinned.checked.prog.looks [] ∧ ∀ (j : Nat) t, fn.params[j]? = some t → Tryz.pinned.checked.prog.wantsStandIn t = false := by
 obtain rfl : f = 3 := Option.some.inj (named.symm.trans hf) |>.symm
 obtain rfl : fn = Tryz.f3 := (Option.some.inj (Tryz.func3.symm.trans hfn)).symm
 refine ⟨looks_, fun j t ht => ?_⟩
 have hall : ∀ t ∈ Tryz.f3.params, Tryz.prog.wantsStandIn t = false := by
  rw [Tryz.params3]
  intro t ht
  have := Array.all_eq_true_iff_forall_mem.1 wants t ht
  simpa using this
 exact hall t (Array.mem_of_getElem? ht)
theorem goes : false = Rows.machineCyclesRow.goesBy Tryz.pinned.checked.prog := by kernel_rfl
/-- the card. -/
theorem card : Rows.MachineCyclesCardSaid :=
 Claim7.holds_tied_plain_at .later [] _ _ _ _ said (fun _ h => by cases h) byText (fun _ h => by cases h) machineCycles_row_tie rfl ⟨rfl, rfl⟩ (by as_aux_lemma => kernel_rfl) rfl plain goes
end Go.Proofs.YtndmeaoidihikaaGreatDoor.machineCycles
