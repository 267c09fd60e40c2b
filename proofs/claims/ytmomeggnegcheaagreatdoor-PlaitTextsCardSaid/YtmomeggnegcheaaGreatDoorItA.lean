/- Itoa answers at each number that an int holds, in a world in which its table is laid. No condition beyond that. -/
import Derived.Test.YtmomeggnegcheaaGreatDoorTxA
import Derived.Test.YtmomeggnegcheaaGreatDoorLib2
import Derived.Lib.AppendIntMem
import Derived.Lib.SmallJoins
import Derived.Shelf.Strconv.Itoa3
import Derived.LaidSub
import Derived.Lib.LaidTab
set_option linter.all false
namespace Go.Proofs.YtmomeggnegcheaaGreatDoor
open Go.RowKit
set_option maxRecDepth 100000

theorem gPow : Tryz.prog.globalNamed "internal/strconv.uint64pow10" = some 3 := by kernel_rfl
abbrev TabW (w : World) : Prop := Lib.TabIs Tryz.prog w "internal/strconv.uint64pow10" .u64 Lib.pow10Tab
theorem TabW.below {w w' : World} (h : TabW w) (hb : Below w.heap.size w w') : TabW w' := Joins.tab_stays gPow h hb (Nat.le_refl _)
theorem itoaOk_tab {w : World} (h : TabW w) (n : Int) (h0 : -9223372036854775808 ≤ n) (h1 : n ≤ 9223372036854775807) : ItoaOk w n := by
  intro w' hb
  refine (Tryz.strconv_Itoa n h0 h1 w' (h.below hb)).mono ?_
  rintro e w'' ⟨rfl, k, os, rfl⟩
  exact ⟨rfl, Lib.below_grow _ _ (Nat.le_refl _) _ _⟩
theorem gPowT : (Tryz.prog.globals[3]?).map (·.type) = some 274 := by kernel_rfl
/-- a row's condition lays the table. -/
theorem tabW_of {W : World} {l : List (String × DataW Unit)} (hL : laidMetH Tryz.prog l W) (he : (l.filter fun x => x.2.handleName?.isNone).filter (fun p => p.1 == "internal/strconv.uint64pow10") = [("internal/strconv.uint64pow10", Lib.tabData .u64 Lib.pow10Tab)]) : TabW W := by
  have h := (laidMetH_iff.1 hL).1.filter (fun p => p.1 == "internal/strconv.uint64pow10")
  rw [he] at h
  exact Lib.tabIs_of_head gPow gPowT Tryz.underlying274 Tryz.underlying224 (by kernel_rfl) (by kernel_rfl) h
end Go.Proofs.YtmomeggnegcheaaGreatDoor
