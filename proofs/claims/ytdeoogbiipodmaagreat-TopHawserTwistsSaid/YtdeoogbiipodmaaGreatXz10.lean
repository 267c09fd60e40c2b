/- Contracts and plain facts that the claim uses (FtP BxN HvA). Conditions: as each one states. -/
import Derived.Test.YtdeoogbiipodmaaGreatProg
import Derived.WalkKit
import Derived.WalkSpells
import Derived.Maps.AppendAt
import Derived.Deep.Quiet
import Derived.Maps.Own
import Derived.Maps.OwnSet
import Derived.Maps.Views
import Derived.WalkLawsBesides
import Derived.Laws.EntriesVeiled
import Derived.RangeFuncNested
import Derived.RangeFuncBound
import Derived.RangeFuncCalls
import Derived.RangeFuncLeaves
import Derived.RangeFuncFrom
import Derived.Shelf.Abstract
import Derived.Shelf.RegionOpen
import Derived.OwnWalkIn
import Derived.TacticsInMore
import Derived.LoopNIn
import Derived.LoopIn
import Derived.Deep.QuietTactic
import Derived.BigQuiet
import Derived.Shelf.Strings.Trim
import Derived.Shelf.Strings.SlTrimAscii
import Derived.Shelf.Strings.Repeat
import Derived.Shelf.Strings.OnBuilder
import Derived.Shelf.Strconv.Itoa1
import Derived.Shelf.Strconv.Itoa3
import Derived.Shelf.LaysM
import Derived.Ground.Names2Prog
import Derived.Lib.OthersKept
import Derived.Deep.RegionHeld3
import Derived.Deep.AppendLies
import Derived.Deep.RegionHeldLaw
import Derived.Deep.RegionLaw
import Derived.StillTail
import Derived.Laws.Tables
import Derived.IntWalk
import Derived.Laws.CopyOwn
import Derived.BigRegion
import Derived.ChangeAlike
import Derived.Shelf.Bits.Mul64
import Derived.Lib.ItoaLen
import Derived.Lib.ItoaMem
import Derived.Sort.LoopGhostIn
import Derived.Maps.RangeWalk
import Derived.Maps.Ext
import Derived.Deep.LoopGhost
import Derived.Laws.IdiomStrings
import Derived.Sort.QuietThIn
import Derived.Lib.Split
import Derived.Lib.AtoiAll
import Derived.Lib.AppendIntMem
import Derived.Lib.SmallJoins
import Derived.LaidSub
import Derived.Lib.LaidTab
import Derived.Lib.AtoiErrMem
import Derived.Stop.LaidErr
import Derived.ReadAgain
import Derived.ChangeSlices
import Derived.OpenShut
import Derived.ProofKit
import Derived.Deep.DeepHandedRow
import Derived.Deep.SlicePairs
import Derived.Test.YtdeoogbiipodmaaGreatXz01
import Derived.Test.YtdeoogbiipodmaaGreatXz02
import Derived.Test.YtdeoogbiipodmaaGreatXz03
import Derived.Test.YtdeoogbiipodmaaGreatXz04
import Derived.Test.YtdeoogbiipodmaaGreatXz05
import Derived.Test.YtdeoogbiipodmaaGreatXz06
import Derived.Test.YtdeoogbiipodmaaGreatXz07
import Derived.Test.YtdeoogbiipodmaaGreatXz08
import Derived.Test.YtdeoogbiipodmaaGreatXz09
set_option linter.all false

namespace Go.Proofs.YtdeoogbiipodmaaGreat
set_option maxRecDepth 100000
theorem form_two : formW 2 [-1, -1] = (-2, []) := by
 have hok : WordOk 2 [-1, -1] := fun x hx => by
  simp only [List.mem_cons, List.not_mem_nil, or_false, or_self] at hx
  subst hx
  exact ⟨by decide, by decide⟩
 have e : facL (garN 2) [] [-1, -1] = [[0, 1], [0, 1]] := by
  show facG (garN 2) (facG (garN 2) [] (-1)) (-1) = _
  unfold facG
  rw [if_neg (by decide), if_neg (by decide)]
  show [flP (bkP (revP 2) 0)] ++ [bkP (revP 2) 0] = _
  decide
 rw [formW_eq hok (Y := [[0, 1], [0, 1]]) ⟨by rw [e]; exact .refl _, noPull_of fun j a b h1 h2 => ?_⟩]
 ·decide
 ·intro i hi hb
  have hi0 : i = 0 := by have : i < 1 := hi; omega
  subst hi0
  have hbm := List.mem_of_getElem? h2
  simp only [List.mem_cons, List.not_mem_nil, or_false, or_self] at hbm
  subst hbm
  exact absurd hb (by decide)
end Go.Proofs.YtdeoogbiipodmaaGreat

namespace Go.Proofs.YtdeoogbiipodmaaGreat
open Go.RowKit
set_option maxHeartbeats 8000000
set_option maxRecDepth 100000
theorem Normal_any (n : Nat) (a : Option Addr) (cap : Nat) (l : List Int) (w : World) (hS : Ints w a cap l) (h : wordE (n : Int) l = 0) :
  Calls Tryz.prog 8 #[.int .i64 n, .slice a l.length cap] w fun r w' => ∃ v, r = .returned (.tuple #[v, .int .i64 0]) ∧ FormR w' n v (formW n l) ∧ Below w.heap.size w w' := by
 obtain ⟨hn1, hn2, hl, hx⟩ := wordE_fits h
 have CW := fun w (hS : Ints w a cap l) => CheckWord_any n a cap l w hS (by omega)
 rw [h] at CW
 have HW := hid CW
 have HP := hid (fun w (hS : Ints w a cap l) => normal_allS n l.length a cap l w hS (word_okE h) rfl (by omega) (by omega) (by omega))
 obtain ⟨f, hf⟩ : ∃ f, f = formW n l := ⟨_, rfl⟩
 rw [← hf] at HP ⊢
 have hb0 := bal (Below.refl w.heap.size w) zForm
 have hS0 := (SL.nil w).box zForm
 obtain ⟨B, hB⟩ : ∃ B, B = w.heap.size := ⟨_, rfl⟩
 obtain ⟨w0, hw0⟩ : ∃ w0, w0 = w.alloc zForm := ⟨_, rfl⟩
 rw [← hw0] at hS0 hb0
 have hA := hS.below hb0
 rw [← hB] at hS0 hb0
 have HB := hid hB
 clear CW h hx hf hS
 go_enter Tryz.func8, Tryz.ntmps8
 go_wp2_with fail
 rw [← hB, ← hw0]
 clear hB hw0 hb0
 go_wp2_with fail
 refine (HW.out _ hA).mono ?_
 rintro e w1 ⟨rfl, b1⟩
 have hS1 := hS0.mono b1
 have hA1 := hA.below b1
 clear hS0 hA b1
 go_wp2_with fail
 refine (HP.out _ hA1).mono ?_
 rintro e w2 ⟨v2, L, rfl, hL, hF⟩
 have hS2 := (hS1.call hL).comm
 obtain ⟨a2, c2, H2, hv2, -⟩ := hF _ _ _ hL
 subst hv2
 simp only [List.cons_append, List.nil_append] at hS2
 clear hS1 hA1
 go_wp2_with ((with_reducible refine wpList_stoR (us := #[.int .i64 f.1, .slice a2 f.2.length c2]) 0 wU wU (hS2) wU kR wU wU ?_); intro w3 hS3)
 refine bodyPost_ret (results_cellSlot rfl rfl rfl A_form kR (hS3.blk 0 rfl).1) rfl ⟨_, rfl, hF _ _ _ (SL.tail hS3), ?_⟩
 rw [← HB.out]
 exact hS3.b
end Go.Proofs.YtdeoogbiipodmaaGreat

namespace Go.Proofs.YtdeoogbiipodmaaGreat
open Go.RowKit
set_option maxHeartbeats 8000000
set_option maxRecDepth 100000
theorem hv_exp : expL [-1, -1] = -2 := by decide +kernel
theorem hv_word : wordE ((2 : Nat) : Int) [-1, -1] = 0 := by decide +kernel
theorem hv_norm (a : Option Addr) (c : Nat) (w : World) (h : Ints w a c [-1, -1]) : Calls Tryz.prog 8 #[.int .i64 2, .slice a 2 c] w fun r w' => ∃ v, r = .returned (.tuple #[v, .int .i64 0]) ∧ (∃ a c, v = .agg #[.int .i64 (-2), .slice a 0 c]) ∧ Below w.heap.size w w' := by
 have h3 := Normal_any 2 a c [-1, -1] w h hv_word
 rw [form_two] at h3
 refine h3.mono ?_
 rintro e w' ⟨v, rfl, ⟨a2, c2, H, rfl, -, -⟩, b⟩
 exact ⟨_, rfl, ⟨a2, c2, rfl⟩, b⟩
theorem hv_expo (a : Option Addr) (c : Nat) (w : World) (h : Ints w a c [-1, -1]) : Calls Tryz.prog 18 #[.int .i64 2, .slice a 2 c] w fun r w' => r = .returned (.tuple #[.int .i64 (-2), .int .i64 0]) ∧ Below w.heap.size w w' := by
 have h3 := Exponent_any 2 a c [-1, -1] w h hv_word
 rw [hv_exp] at h3
 exact h3
theorem hawserWeaves_any (w : World) : Calls Tryz.prog 6 #[] w fun r w' => r = .returned (.bool true) ∧ Below w.heap.size w w' := by
 go_enter Tryz.func6, Tryz.ntmps6
 go_wp2_with fail
 refine (one_word _ _ (reps_of_own (own_newN cIntS [0, 2] 2 rfl (by decide) _ rfl (Nat.le_refl _) rfl) rfl)).mono ?_
 rintro e w1 ⟨v1, rfl, ho1, b1⟩
 obtain ⟨aW, cW, rfl, hW, _, _⟩ := ho1.reps
 have t1 := bnext (bal (Below.refl _ _) _) b1
 clear ho1 b1
 go_wp2_with fail
 refine (hv_norm aW cW _ hW).mono ?_
 rintro e w2 ⟨v2, rfl, ⟨aF, cF, rfl⟩, b2⟩
 have hW2 := hW.below b2
 have t2 := bnext t1 b2
 have hS := (SL.nil w2).box (.cells #[.int .i64 (-2), .slice aF 0 cF] 33)
 have q := (hS.blk 0 rfl).1
 clear hW b2 t1
 go_wp2_with fail
 have hW3 := hW2.below hS.b
 refine (hv_expo aW cW _ hW3).mono ?_
 rintro e w3 ⟨rfl, b3⟩
 have hS3 := hS.mono b3
 have hW4 := hW3.below b3
 have q3 := (hS3.blk 0 rfl).1
 clear hS q hW2 hW3 b3
 go_wp2_with (with_reducible refine wpList_ldB (by first | exact F_int | fail) wU wU (by assumption) wU ?_)
 have hW5 := hW4.below (bal (Below.refl _ _) (.cells #[.int .i64 (-1), .int .i64 (-1)] 3))
 have hS5 := hS3.box (.cells #[.int .i64 (-1), .int .i64 (-1)] 3)
 refine (amSame aW _ cW 2 2 [-1, -1] _ hW5 (reps_of_own (own_newN cIntS [-1, -1] 2 rfl (by decide) _ rfl (Nat.le_refl _) rfl) rfl) rfl (by decide)).mono ?_
 rintro e w6 ⟨rfl, b6⟩
 have hS6 := hS5.mono b6
 have q6 := (hS6.blk 1 rfl).1
 clear hS3 q3 hW4 hW5 hS5 b6
 go_wp2_with (first | (with_reducible refine wpList_ldB (by first | exact F_int | fail) wU wU (by assumption) wU ?_) | (with_reducible refine wpList_ldB F_sls wU wU (by assumption) wU ?_))
 go_ret
 exact ⟨rfl, bnext t2 hS6.b⟩
/-- what hawserMade asks. -/
def Made (m : MacV) (l : List Int) (n : Int) : Prop := Fits m l 6 6 ∧ 0 < l.length ∧ m.ring = false ∧ 0 ≤ n ∧ n ≤ 24 ∧ meetsM m l n = false
end Go.Proofs.YtdeoogbiipodmaaGreat
