/- The type facts of this translation that the walks use. No condition. The type facts for strings. No condition. Plain laws: make of a slice of one-cell elements; stores of ints and bools. Conditions: none beyond each statement's own. -/
import Derived.Test.YtmomeggnegcheaaGreatDoorProg
import Derived.Test.YtmomeggnegcheaaGreatDoorMemA
set_option linter.all false
/- The type facts of this translation that the walks use. No condition. -/
namespace Go.Proofs.YtmomeggnegcheaaGreatDoor
open Go.RowKit

def cInt : Int → Value := Value.int .i64
def cBool : Bool → Value := Value.bool
def cStr : ByteArray → Value := Value.string
attribute [go_sem] cInt cBool cStr
theorem cInt1 (x : Int) : (cInt x).cells = #[cInt x] := rfl
theorem cBool1 (x : Bool) : (cBool x).cells = #[cBool x] := rfl
theorem cStr1 (x : ByteArray) : (cStr x).cells = #[cStr x] := rfl
theorem cIntS (x : Int) : (cInt x).cells.size = 1 := rfl
theorem cBoolS (x : Bool) : (cBool x).cells.size = 1 := rfl
theorem cStrS (x : ByteArray) : (cStr x).cells.size = 1 := rfl
theorem cIntO (x : Int) : ∀ u ∈ (cInt x).cells.toList, u.oneCell' = true := by intro u hu; simp [cInt, Value.cells] at hu; subst hu; rfl

abbrev Ints (w : World) (a : Option Addr) (cap : Nat) (l : List Int) : Prop := Reps cInt 1 w a cap l
abbrev OwnI (B : Nat) (w : World) (v : Value) (l : List Int) : Prop := Own cInt 1 B 3 w v l

theorem E_ints : ETy Tryz.prog 22 3 (.int .i64 0) 1 8 := ⟨Tryz.underlying22, by kernel_rfl, rfl, by decide⟩
theorem F_int : Flat Tryz.prog 3 := ⟨_, Tryz.underlying3, rfl⟩
theorem E_errs : ETy Tryz.prog 161 27 (.int .i64 0) 1 8 := ⟨Tryz.underlying161, by kernel_rfl, rfl, by decide⟩
theorem F_err : Flat Tryz.prog 27 := ⟨_, Tryz.underlying27, rfl⟩

/-- A list of ints and an error came back. -/
def RetLE (W : World) (L : List Int) (e : Int) (r : Ending) (w' : World) : Prop :=
  ∃ a cap, r = .returned (.tuple #[.slice a L.length cap, .int .i64 e]) ∧ Ints w' a cap L ∧ (∀ b, a = some b → W.heap.size ≤ b.block) ∧ Below W.heap.size W w'
theorem RetLE.mk {W w' : World} {L : List Int} {e : Int} {r : Ending} (a : Option Addr) (cap : Nat) (h1 : r = .returned (.tuple #[.slice a L.length cap, .int .i64 e])) (h2 : Ints w' a cap L) (h3 : ∀ b, a = some b → W.heap.size ≤ b.block) (h4 : Below W.heap.size W w') : RetLE W L e r w' :=
  ⟨a, cap, h1, h2, h3, h4⟩
theorem ints_nil (w : World) : Ints w none 0 [] := ⟨cIntS, Nat.le_refl _, Nat.zero_le _, fun _ => rfl, fun j u hu => by simp at hu⟩
theorem RetLE.none {W w' : World} {e : Int} {r : Ending} (h1 : r = .returned (.tuple #[.slice none 0 0, .int .i64 e])) (h4 : Below W.heap.size W w') : RetLE W [] e r w' :=
  ⟨.none, 0, h1, ints_nil _, (fun _ h => by cases h), h4⟩
theorem RetLE.own {W w' : World} {L : List Int} {e : Int} {r : Ending} {B : Nat} (v : Value) (h1 : r = .returned (.tuple #[v, .int .i64 e])) (h2 : OwnI B w' v L) (hB : W.heap.size ≤ B) (h4 : Below W.heap.size W w') : RetLE W L e r w' := by
  obtain ⟨a, cap, rfl, hr, hf, _⟩ := h2.reps
  exact ⟨a, cap, h1, hr, fun b hb => Nat.le_trans hB (hf b hb).1, h4⟩
theorem RetLE.out {W w' : World} {L : List Int} {e : Int} {r : Ending} (h : RetLE W L e r w') : ∃ a cap, r = .returned (.tuple #[.slice a L.length cap, .int .i64 e]) ∧ Ints w' a cap L ∧ (∀ b, a = some b → W.heap.size ≤ b.block) ∧ Below W.heap.size W w' := h

def cPair (m : Int × Int) : Value := .agg #[.int .i64 m.1, .int .i64 m.2]
attribute [go_sem] cPair
theorem cPair1 (x : Int × Int) : cPair x = .agg (cPair x).cells := rfl
theorem cPairS (x : Int × Int) : (cPair x).cells.size = 2 := rfl
theorem cPairO (x : Int × Int) : ∀ u ∈ (cPair x).cells.toList, u.oneCell' = true := by
  intro u hu; simp [cPair, Value.cells] at hu; rcases hu with rfl | rfl <;> rfl
abbrev Pairs (w : World) (a : Option Addr) (cap : Nat) (l : List (Int × Int)) : Prop := Reps cPair 2 w a cap l
theorem E_moves : ETy Tryz.prog 31 55 (.agg #[.int .i64 0, .int .i64 0]) 2 16 := ⟨Tryz.underlying31, by kernel_rfl, rfl, by decide⟩
theorem F_move : Aggr Tryz.prog 55 := ⟨_, Tryz.underlying55, rfl⟩
theorem E_refs : ETy Tryz.prog 45 54 (.agg #[.int .i64 0, .int .i64 0]) 2 16 := ⟨Tryz.underlying45, by kernel_rfl, rfl, by decide⟩
theorem F_ref : Aggr Tryz.prog 54 := ⟨_, Tryz.underlying54, rfl⟩
end Go.Proofs.YtmomeggnegcheaaGreatDoor

/- The type facts for strings. No condition. -/
namespace Go.Proofs.YtmomeggnegcheaaGreatDoor
open Go.RowKit
theorem E_strs : ETy Tryz.prog 93 9 (cStr ByteArray.empty) 1 16 := ⟨Tryz.underlying93, by kernel_rfl, rfl, by decide⟩
theorem F_str : Flat Tryz.prog 9 := ⟨_, Tryz.underlying9, rfl⟩
end Go.Proofs.YtmomeggnegcheaaGreatDoor

/- Plain laws: make of a slice of one-cell elements; stores of ints and bools. Conditions: none beyond each statement's own. -/
namespace Go.Proofs.YtmomeggnegcheaaGreatDoor
open Go.RowKit
set_option maxRecDepth 100000

theorem wpList_make1 {P : Program} {α : Type} {c : α → Value} {bytes B : Nat} {t e : TypeId} {w : World} {ops : Array Oper} {rest : List Oper} {a : Act} {Q : Exit → Act → World → Prop} {d : Option Tmp} {ty : TypeId} {p : String} {x y : Operand} {af : Array Edge} (n : Nat) (z0 : α)
    (E : ETy P t e (c z0) 1 bytes) (hc : ∀ x, (c x).cells = #[c x]) (hx : a.eval x = .int .i64 n) (hy : a.eval y = .int .i64 n) (hb : bytes * n ≤ 281474976710656) (hm : n ≤ 9223372036854775807) (hB : B ≤ w.heap.size)
    (hK : ∀ w', Own c 1 B e w' (.slice (some ⟨w.heap.size, 0, none⟩) n n) (List.replicate n z0) → w.grownBy w' none → wpList P ops Q rest (a.put d (.slice (some ⟨w.heap.size, 0, none⟩) n n)) w') :
    wpList P ops Q (⟨d, .makeSlice t x y, ty, p, af, none⟩ :: rest) a w := by
  obtain ⟨i, hi, hz, hs, hby⟩ := info_parts E.inf
  refine wpList_make_full w rfl x y t rfl B e i (c z0) 1 E.und hi hz hs .i64 .i64 n n n hx hy rfl rfl (by rw [hby]; exact hb) (by unfold maxLen; omega) hB (fun w' ho hg => hK w' ⟨fun u => by rw [hc]; rfl, ?_⟩ hg)
  have e1 : (madeCells (c z0).cells (n * 1)).toList = List.replicate n (c z0) := by rw [hc, Nat.mul_one]; exact toList_madeCells_one _ _
  have e2 : ((List.replicate n z0).flatMap fun x => (c x).cells.toList) = List.replicate n (c z0) := by
    have aux : ∀ m : Nat, ((List.replicate m z0).flatMap fun x => (c x).cells.toList) = List.replicate m (c z0) := by
      intro m
      induction m with
      | zero => rfl
      | succ m ih => rw [List.replicate_succ, List.flatMap_cons, ih, hc, List.replicate_succ]; rfl
    exact aux n
  rw [e2, List.length_replicate, ← e1]
  exact ho

theorem own_newN {α : Type} {c : α → Value} {sz B : Nat} {e : TypeId} {w : World} (hc : ∀ x, (c x).cells.size = sz) (ys : List α) (n : Nat) (hn : n = ys.length) (hm : n ≤ maxLen) (cs : Array Value) {H : Nat} (hH : w.heap.size = H) (hB : B ≤ H) (h : cs.toList = ys.flatMap fun x => (c x).cells.toList) :
    Own c sz B e (w.alloc (.cells cs e)) (.slice (some ⟨H, 0, none⟩) n n) ys := by
  subst hH
  subst hn
  have hl : (ys.flatMap fun x => (c x).cells.toList).length = ys.length * sz := flat_len _ sz (fun x => by simpa using hc x) ys
  refine ⟨hc, hl, .inr ⟨w.heap.size, ys.length, cs, rfl, hB, heap_alloc_new w _, Nat.le_refl _, hm, ?_, ?_⟩⟩
  · rw [← hl, ← h]; simp
  · rw [← hl, ← h]; exact List.take_of_length_le (by simp)
def lenV : Value → Nat | .slice _ n _ => n | _ => 0
theorem wpList_storeN {P : Program} {α : Type} {c : α → Value} {bytes B n : Nat} {t e : TypeId} {z : Value} {w : World} {l : List α} {ops : Array Oper} {rest : List Oper} {a : Act} {Q : Exit → Act → World → Prop} {d1 : Tmp} {ty1 ty2 : TypeId} {p1 p2 : String} {s x y : Operand} {af1 af2 : Array Edge} {ad : Option Addr} {cap : Nat} {k : Int} (u : α)
   (E : ETy P t e z 1 bytes) (hc1 : ∀ x, (c x).cells = #[c x]) (hsto : ∀ (w : World) (p : Addr), (w.cell? p).isSome = true → w.frozen? p = false → (Instr.storeAt e (.pointer (some p)) (c u)).run P w = .ok () (w.setCell p (c u)))
   (hs : a.eval s = .slice ad n cap) (hx : a.eval x = .int .i64 k) (hO : Own c 1 B e w (.slice ad n cap) l) (hn : l.length = n) (h0 : 0 ≤ k) (hk : k < n)
   (hd : ∀ p, (a.put (some d1) p).eval (.tmp d1) = p) (hy : ∀ p, (a.put (some d1) p).eval y = c u)
   (hK : ∀ p w', Own c 1 B e w' (.slice ad n cap) (l.set k.toNat u) → w.grownBy w' (Value.slice ad n cap).ownBlock → wpList P ops Q rest ((a.put (some d1) p).put none undef) w') :
   wpList P ops Q (⟨some d1, .indexAddr t s x, ty1, p1, af1, none⟩ :: ⟨none, .store e (.tmp d1) y, ty2, p2, af2, none⟩ :: rest) a w := by
  subst hn
  exact wpList_store u E hc1 hsto hs hx hO h0 hk hd hy hK

theorem E_intsZ : ETy Tryz.prog 22 3 (cInt 0) 1 8 := E_ints
theorem sto_int (u : Int) (w : World) (p : Addr) (h1 : (w.cell? p).isSome = true) (h2 : w.frozen? p = false) : (Instr.storeAt 3 (.pointer (some p)) (cInt u)).run Tryz.prog w = .ok () (w.setCell p (cInt u)) := by
  obtain ⟨v, hv⟩ := Option.isSome_iff_exists.1 h1
  simp [go_sem, hv, h2]
theorem sto_bool (u : Bool) (w : World) (p : Addr) (h1 : (w.cell? p).isSome = true) (h2 : w.frozen? p = false) : (Instr.storeAt 4 (.pointer (some p)) (cBool u)).run Tryz.prog w = .ok () (w.setCell p (cBool u)) := by
  obtain ⟨v, hv⟩ := Option.isSome_iff_exists.1 h1
  simp [go_sem, hv, h2]
end Go.Proofs.YtmomeggnegcheaaGreatDoor
