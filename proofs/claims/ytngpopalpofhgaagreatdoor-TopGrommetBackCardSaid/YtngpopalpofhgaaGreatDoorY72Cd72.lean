/- The row and the card of TopGrommetBack. No condition. -/
import Derived.Test.YtngpopalpofhgaaGreatDoorCards
import Derived.Test.YtngpopalpofhgaaGreatDoorTie
import Derived.WalkKit
import Derived.ProofKit
import Derived.OpenShut
import Derived.Deep.DeepHandedRow
import Derived.Test.YtngpopalpofhgaaGreatDoorProg
import Derived.WalkSpells
import Derived.Maps.AppendAt
import Derived.Deep.Quiet
import Derived.Maps.Own
import Derived.Maps.OwnSet
import Derived.Maps.Views
import Derived.WalkLawsBesides
import Derived.Laws.EntriesVeiled
import Derived.ReadAgain
import Derived.ChangeSlices
import Derived.Lib.SmallJoins
import Derived.Deep.SlicePairs
import Derived.Deep.QuietTactic
import Derived.BigQuiet
import Derived.Lib.OthersKept
import Derived.Deep.RegionHeld3
import Derived.Deep.AppendLies
import Derived.Deep.RegionHeldLaw
import Derived.Deep.RegionLaw
import Derived.RangeFuncNested
import Derived.RangeFuncBound
import Derived.RangeFuncCalls
import Derived.RangeFuncLeaves
import Derived.RangeFuncFrom
import Derived.Shelf.Abstract
import Derived.Shelf.RegionOpen
import Derived.OwnWalkIn
import Derived.TacticsInMore
import Derived.LoopNIn
import Derived.LoopIn
import Derived.Shelf.Strings.Trim
import Derived.Shelf.Strings.SlTrimAscii
import Derived.Shelf.Strings.Repeat
import Derived.Shelf.Strings.OnBuilder
import Derived.Shelf.Strconv.Itoa1
import Derived.Shelf.Strconv.Itoa3
import Derived.Shelf.LaysM
import Derived.Ground.Names2Prog
import Derived.StillTail
import Derived.Laws.Tables
import Derived.IntWalk
import Derived.Laws.CopyOwn
import Derived.BigRegion
import Derived.ChangeAlike
import Derived.Shelf.Bits.Mul64
import Derived.Lib.ItoaLen
import Derived.Lib.ItoaMem
import Derived.Sort.LoopGhostIn
import Derived.Maps.RangeWalk
import Derived.Maps.Ext
import Derived.Deep.LoopGhost
import Derived.Laws.IdiomStrings
import Derived.Sort.QuietThIn
import Derived.Lib.Split
import Derived.Lib.AtoiAll
import Derived.Lib.AppendIntMem
import Derived.LaidSub
import Derived.Lib.LaidTab
import Derived.Lib.AtoiErrMem
import Derived.Stop.LaidErr
import Derived.Lib.AppendZeros
import Derived.Test.YtngpopalpofhgaaGreatDoorXz01
import Derived.Test.YtngpopalpofhgaaGreatDoorXz02
import Derived.Test.YtngpopalpofhgaaGreatDoorXz03
import Derived.Test.YtngpopalpofhgaaGreatDoorXz04
import Derived.Test.YtngpopalpofhgaaGreatDoorXz05
import Derived.Test.YtngpopalpofhgaaGreatDoorXz06
import Derived.Test.YtngpopalpofhgaaGreatDoorXz07
import Derived.Test.YtngpopalpofhgaaGreatDoorXz08
import Derived.Test.YtngpopalpofhgaaGreatDoorXz09
import Derived.Test.YtngpopalpofhgaaGreatDoorY7201
import Derived.Test.YtngpopalpofhgaaGreatDoorY7202
import Derived.Test.YtngpopalpofhgaaGreatDoorY7203
import Derived.Test.YtngpopalpofhgaaGreatDoorY7204
import Derived.Test.YtngpopalpofhgaaGreatDoorY7205
import Derived.Test.YtngpopalpofhgaaGreatDoorY72Fd72

set_option linter.all false
namespace Go.Proofs.YtngpopalpofhgaaGreatDoor.topGrommetBack
open Go.ChangeShapes Go.WideShapes Go.ChangeAt Go.RowKit
set_option maxRecDepth 100000

theorem contract (H : Type) (enc : TypeId × Value → H) (W : World) (base : Nat) (args : Array Value) (ds gs : List (DataW H)) (before : List MemPlace)
  (hval : ∀ (j : Nat) t v, Tryz.f4.params[j]? = some t → args[j]? = some v → Value.okWide Tryz.prog W .any base t v)
  (hW : DataW.Whole enc Tryz.prog Tryz.f4.params.toList Rows.topGrommetBackSpec.vars false W args.toList ds gs before) :
  Calls Tryz.prog 4 args W fun e W' => ∃ v, e = .returned v ∧ Rows.topGrommetBackSpec.post enc Tryz.prog Tryz.f4 false true false false W args v W' := by
 have hW' := hW
 obtain ⟨p, q, hA0, hV, rfl, hfz, hnd⟩ := hW
 have hA : DataW.TrodAll enc Tryz.prog W 0 (fun _ => true) true Tryz.f4.params.toList args.toList ds p := hA0
 rw [Tryz.params4] at hA hval
 obtain ⟨v0, vs0, d0, ds0, p0, q0, hargs0, rfl, rfl, h0, r0⟩ := trodAll_cons hA
 obtain ⟨v1, vs1, d1, ds1, p1, q1, hargs1, rfl, rfl, h1, r1⟩ := trodAll_cons r0
 obtain ⟨rfl, rfl, rfl⟩ := trodAll_nil r1
 obtain rfl : args = #[v0, v1] := by cases args; simp_all
 obtain ⟨x0, rfl, hx0⟩ := open_intA (hval 0 _ _ rfl rfl) h0
 obtain ⟨a1, c1, l1, rfl, hP1⟩ := open_passesA (hval 1 _ _ rfl rfl) h1
 refine (TopGrommetBack_any x0 a1 c1 l1 W hP1).mono fun e W' ⟨he, hb⟩ => ?_
 subst he
 exact ⟨_, rfl, law_post rfl (by kernel_rfl) (by rw [Tryz.params4]; decide +kernel) ⟨rfl, rfl, rfl⟩ hW' hb⟩

theorem laid_met (os : Os) : laidMet Tryz.prog Rows.topGrommetBackRow.laid ((laidWorld os).forCall (fun _ _ => 0) ⟨#[], #[.int .i64 0, .slice none 0 0], []⟩).memory :=
 laidMet_of_run' 8 (by kernel_rfl) (by kernel_rfl)
theorem reads (os : Os) {H : Type} (enc : TypeId × Value → H) : ∃ ds places, DataW.whole enc Tryz.prog ((laidWorld os).forCall (fun _ _ => 0) ⟨#[], #[.int .i64 0, .slice none 0 0], []⟩).memory Tryz.f4.params.toList Rows.topGrommetBackSpec.vars false (#[.int .i64 0, .slice none 0 0] : Array Value).toList 8 = some (ds, [], places) :=
 ⟨[.lit (.int .i64 0), .nil], [], by kernel_rfl⟩
theorem lifted (os : Os) (started : os.Started) (H : Type) (enc : TypeId × Value → H) (F : Stop.Interp) :
  ReturnsInHanded {} Tryz.checked os 4 .any ((OpenSpec.ofChange Rows.topGrommetBackSpec).preRow enc Tryz.prog Tryz.f4 Rows.topGrommetBackRow.domain false Rows.topGrommetBackRow.laid) (((OpenSpec.ofChange Rows.topGrommetBackSpec).at F).post enc Tryz.prog Tryz.f4 false true false false) := by
 obtain ⟨ds, places, hx⟩ := reads os enc
 refine returnsInHanded_of_row (C := Tryz.checked) (s := OpenSpec.ofChange Rows.topGrommetBackSpec) ownP started (by kernel_rfl) Tryz.func4
  (witness_row_at (enc := enc) (C := Tryz.checked) false (laidWorld os) #[.int .i64 0, .slice none 0 0] rfl (by kernel_rfl) (by kernel_rfl) (by kernel_rfl)
   (OpenSpec.preRow_of_cond 8 hx (by kernel_rfl) (fun k hk => by cases hk) (by kernel_rfl) (laid_met os))) ?_
 intro W base args ds gs before hval hW _ _ _ hL _ _
 exact contract H enc W base args ds gs before hval hW
theorem said : Rows.TopGrommetBackSaid :=
 OpenClaim.holds_of_cond 4 Tryz.f4 rfl rfl rfl rfl rfl rfl rfl ⟨rfl, rfl, rfl, rfl, rfl⟩ rfl rfl rfl rfl rfl named Tryz.func4 facts instance_ wrapper
  (fun os started H enc _ F => by rw [OpenClaim.pre_eq_preRow]; exact lifted os started H enc F)
theorem looks_ : false = Tryz.pinned.checked.prog.looks [] := by kernel_rfl
theorem wants : (#[3, 44].all fun t => !Tryz.prog.wantsStandIn t) = true := by kernel_rfl
theorem plain (f : FuncId) (fn : Func) (hf : Tryz.pinned.checked.prog.funcNamed Rows.topGrommetBackRow.func = some f) (hfn : Tryz.pinned.checked.prog.funcs[f]? = some fn) :
  false = Tryz.pinned.checked.prog.looks [] ∧ ∀ (j : Nat) t, fn.params[j]? = some t → Tryz.pinned.checked.prog.wantsStandIn t = false := by
 obtain rfl : f = 4 := Option.some.inj (named.symm.trans hf) |>.symm
 obtain rfl : fn = Tryz.f4 := (Option.some.inj (Tryz.func4.symm.trans hfn)).symm
 refine ⟨looks_, fun j t ht => ?_⟩
 have hall : ∀ t ∈ Tryz.f4.params, Tryz.prog.wantsStandIn t = false := by
  rw [Tryz.params4]
  intro t ht
  have := Array.all_eq_true_iff_forall_mem.1 wants t ht
  simpa using this
 exact hall t (Array.mem_of_getElem? ht)
theorem goes : false = Rows.topGrommetBackRow.goesBy Tryz.pinned.checked.prog := by kernel_rfl
/-- the card. -/
theorem card : Rows.TopGrommetBackCardSaid :=
 Claim7.holds_tied_plain_at .later [] _ _ _ _ said (fun _ h => by cases h) byText (fun _ h => by cases h) topGrommetBack_row_tie rfl ⟨rfl, rfl⟩ (by as_aux_lemma => kernel_rfl) rfl plain goes
end Go.Proofs.YtngpopalpofhgaaGreatDoor.topGrommetBack
