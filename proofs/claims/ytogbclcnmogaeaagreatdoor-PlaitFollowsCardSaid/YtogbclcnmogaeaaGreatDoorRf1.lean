/- Plain laws for functions that range over functions: leaving with many marks. Conditions: none beyond each statement's own. -/
import Derived.RangeFuncNested
import Derived.RangeFuncBound
import Derived.RangeFuncCalls
import Derived.RangeFuncLeaves
import Derived.RangeFuncFrom
import Derived.Shelf.Abstract
import Derived.Shelf.RegionOpen
import Derived.WalkKit
import Derived.OwnWalkIn
import Derived.TacticsInMore
import Derived.LoopNIn
import Derived.LoopIn
import Derived.Test.YtogbclcnmogaeaaGreatDoorQA
set_option linter.all false
namespace Go.Proofs.YtogbclcnmogaeaaGreatDoor
open Go.RowKit
set_option maxHeartbeats 1000000
set_option maxRecDepth 100000

def markOf (D : Nat) : Deferred := { target := .collected D, args := #[] }
/-- what stays true when blocks that are no cells, from B on, turn. -/
def Stays (B : Nat) (I : World → Prop) : Prop := ∀ (W : World) (r : Nat) (o o' : Obj), I W → B ≤ r → W.heap[r]? = some o → o.isCells = false → I (W.putObj r o')
/-- the marks that a frame bears. -/
def Marks (B : Nat) (ds : List Deferred) (w : World) : Prop := ∃ Ds : List Nat, ds = Ds.map markOf ∧ Ds.Nodup ∧ ∀ D ∈ Ds, B ≤ D ∧ w.heap[D]? = some (.deferred (some []))

theorem marks_leave {P : Program} {F : Fence} {n B : Nat} {fn : Func} {tmps : Array Value} {R : Ending → World → Prop} {v : Value} {I : World → Prop} (hI : Stays B I) (hres : ∀ W, (results fn tmps).run P W = .ok v W) (hR : ∀ W, I W → R (.returned v) W) :
    ∀ (Ds : List Nat) (w : World), I w → Ds.Nodup → (∀ D ∈ Ds, B ≤ D ∧ w.heap[D]? = some (.deferred (some []))) → LeavesInM F n P fn tmps R (Ds.map markOf) .returning w
  | [], w, h, _, _ => ⟨v, hres w, hR w h⟩
  | D :: Ds, w, h, hn, hD => by
    obtain ⟨hB, hd⟩ := hD D List.mem_cons_self
    refine ⟨by simp, .inl ⟨D, w.putObj D (.deferred none), rfl, run_takeDeferred hd, ?_⟩⟩
    refine marks_leave hI hres hR Ds _ (hI w D _ _ h hB hd rfl) (List.nodup_cons.1 hn).2 (fun E hE => ?_)
    have hne : E ≠ D := fun e => (List.nodup_cons.1 hn).1 (e ▸ hE)
    obtain ⟨h1, h2⟩ := hD E (List.mem_cons_of_mem _ hE)
    exact ⟨h1, by rw [World.putObj_heap_other hne]; exact h2⟩
theorem Marks.leave {P : Program} {F : Fence} {n B : Nat} {fn : Func} {tmps : Array Value} {R : Ending → World → Prop} {v : Value} {I : World → Prop} {ds : List Deferred} {w : World} (h : Marks B ds w) (hI : Stays B I) (hres : ∀ W, (results fn tmps).run P W = .ok v W) (hR : ∀ W, I W → R (.returned v) W) (h0 : I w) :
    LeavesInM F n P fn tmps R ds .returning w := by
  obtain ⟨Ds, rfl, hn, hD⟩ := h
  exact marks_leave hI hres hR Ds w h0 hn hD
end Go.Proofs.YtogbclcnmogaeaaGreatDoor
