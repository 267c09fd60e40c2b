/- A slice that was read after a call, as a piece among owned ones. No condition beyond each statement's own. -/
import Derived.Test.YtmomeggnegcheaaGreatDoorSlA
set_option linter.all false
namespace Go.Proofs.YtmomeggnegcheaaGreatDoor
open Go.RowKit
set_option maxHeartbeats 400000
set_option maxRecDepth 100000

/-- a slice that can be read, in a block of its own. -/
def pRd {α : Type} (c : α → Value) (sz : Nat) (a : Option Addr) (cap : Nat) (l : List α) : Pc where
  P w b := Reps c sz w a cap l ∧ ((l = [] ∧ b = none) ∨ ∃ x, a = some x ∧ b = some x.block ∧ x.block < w.heap.size)
  lt w k h := by
    rcases h.2 with ⟨_, h2⟩ | ⟨x, _, h2, h3⟩
    · cases h2
    · cases h2; exact h3
  loc w w' row b h hg hne := by
    rcases h.2 with ⟨h1, h2⟩ | ⟨x, h1, h2, h3⟩
    · subst h1
      obtain ⟨r1, r2, r3, r4, r5⟩ := h.1
      exact ⟨⟨r1, r2, r3, r4, fun j u hj => by simp at hj⟩, .inl ⟨rfl, h2⟩⟩
    · exact ⟨h.1.grown hg (fun b' e => by rw [h1] at e; cases e; exact fun e2 => hne _ h2 e2.symm), .inr ⟨x, h1, h2, Nat.lt_of_lt_of_le h3 hg.size⟩⟩
theorem SL.newRd {α : Type} {c : α → Value} {sz : Nat} {B : Nat} {w0 w w' : World} {L : List Pc} {a : Option Addr} {cap : Nat} {l : List α} (h : SL B w0 w L) (hb : Below w.heap.size w w') (hR : Reps c sz w' a cap l) (hsz : 0 < sz) (hf : ∀ b, a = some b → w.heap.size ≤ b.block) : SL B w0 w' (pRd c sz a cap l :: L) := by
  by_cases hl : l = []
  · exact h.new (pRd c sz a cap l) (b := none) (grown_of_below hb) ⟨hR, .inl ⟨hl, rfl⟩⟩ (fun k e => by cases e)
  · have hp : 0 < l.length := List.length_pos_iff.2 hl
    obtain ⟨b, o, e, hc⟩ := hR.cells hsz (l[0]) 0 hp
    have hz : 0 < (c (l.getD 0 l[0])).cells.toList.length := by have := hR.1 (l.getD 0 l[0]); rw [Array.length_toList, this]; exact hsz
    have h1 : (c (l.getD 0 l[0])).cells.toList[0]? = some ((c (l.getD 0 l[0])).cells.toList[0]'hz) := List.getElem?_eq_getElem hz
    have hlt := World.block_lt_of_cell? w' _ (hc 0 _ h1)
    subst e
    exact h.new (pRd c sz (some ⟨b, o, none⟩) cap l) (b := some b) (grown_of_below hb) ⟨hR, .inr ⟨_, rfl, rfl, hlt⟩⟩ (fun k e => by cases e; exact hf _ rfl)
theorem SL.rdR {α : Type} {c : α → Value} {sz : Nat} {B : Nat} {w0 w : World} {L : List Pc} {a : Option Addr} {cap : Nat} {l : List α} (h : SL B w0 w L) (i : Nat) (hi : L[i]? = some (pRd c sz a cap l)) : Reps c sz w a cap l := by
  obtain ⟨b, h1, _, _⟩ := h.upd i hi
  exact h1.1
end Go.Proofs.YtmomeggnegcheaaGreatDoor
