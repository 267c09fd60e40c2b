/- Contracts and plain facts that the claim uses (RfC GsP NfP NfQ NfR CrP BrB CrQ RlD CrR RtP RtM SpB AlA NuB BpA BrC). Conditions: as each one states. -/
import Derived.RangeFuncNested
import Derived.RangeFuncBound
import Derived.RangeFuncCalls
import Derived.RangeFuncLeaves
import Derived.RangeFuncFrom
import Derived.Shelf.Abstract
import Derived.Shelf.RegionOpen
import Derived.WalkKit
import Derived.OwnWalkIn
import Derived.TacticsInMore
import Derived.LoopNIn
import Derived.LoopIn
import Derived.Test.YtngpopalpofhgaaGreatDoorProg
import Derived.WalkSpells
import Derived.Maps.AppendAt
import Derived.Deep.Quiet
import Derived.Maps.Own
import Derived.Maps.OwnSet
import Derived.Maps.Views
import Derived.WalkLawsBesides
import Derived.Laws.EntriesVeiled
import Derived.Deep.QuietTactic
import Derived.BigQuiet
import Derived.StillTail
import Derived.Laws.Tables
import Derived.Deep.RegionHeld3
import Derived.Shelf.Strings.Trim
import Derived.Shelf.Strings.SlTrimAscii
import Derived.Shelf.Strings.Repeat
import Derived.Shelf.Strings.OnBuilder
import Derived.Shelf.Strconv.Itoa1
import Derived.Shelf.Strconv.Itoa3
import Derived.Shelf.LaysM
import Derived.Ground.Names2Prog
import Derived.Lib.OthersKept
import Derived.Deep.AppendLies
import Derived.Deep.RegionHeldLaw
import Derived.Deep.RegionLaw
import Derived.IntWalk
import Derived.Laws.CopyOwn
import Derived.BigRegion
import Derived.ChangeAlike
import Derived.Shelf.Bits.Mul64
import Derived.Lib.ItoaLen
import Derived.Lib.ItoaMem
import Derived.Sort.LoopGhostIn
import Derived.Maps.RangeWalk
import Derived.Sort.QuietThIn
import Derived.Maps.Ext
import Derived.Deep.LoopGhost
import Derived.Test.YtngpopalpofhgaaGreatDoorXz01
import Derived.Test.YtngpopalpofhgaaGreatDoorXz02
import Derived.Test.YtngpopalpofhgaaGreatDoorXz03
import Derived.Test.YtngpopalpofhgaaGreatDoorXz04
import Derived.Test.YtngpopalpofhgaaGreatDoorXz05
set_option linter.all false

namespace Go.Proofs.YtngpopalpofhgaaGreatDoor
open Go.RowKit
set_option maxRecDepth 100000
/-- all blocks from B on stay as they are, and those of K. -/
structure KeepNew (K : Nat → Prop) (B : Nat) (W W' : World) : Prop where
 size : W.heap.size ≤ W'.heap.size
 same : ∀ k, (B ≤ k ∨ K k) → k < W.heap.size → W'.heap[k]? = W.heap[k]?
theorem KeepNew.refl (K : Nat → Prop) (B : Nat) (W : World) : KeepNew K B W W := ⟨Nat.le_refl _, fun _ _ _ => rfl⟩
theorem KeepNew.trans {K : Nat → Prop} {B : Nat} {X Y Z : World} (h : KeepNew K B X Y) (k : KeepNew K B Y Z) : KeepNew K B X Z := ⟨Nat.le_trans h.size k.size, fun i h0 h1 => (k.same i h0 (Nat.lt_of_lt_of_le h1 h.size)).trans (h.same i h0 h1)⟩
theorem KeepNew.le {K : Nat → Prop} {B C : Nat} {X Y : World} (h : KeepNew K B X Y) (hB : B ≤ C) : KeepNew K C X Y := ⟨h.size, fun i h0 h1 => h.same i (h0.imp (fun e => Nat.le_trans hB e) id) h1⟩
theorem KeepNew.put {K : Nat → Prop} {C : Nat} {X : World} {l : Nat} (o : Obj) (hl : l < C) (hk : ¬ K l) : KeepNew K C X (X.putObj l o) := ⟨by simp [World.putObj], fun i h0 h1 => World.putObj_heap_other (fun e => by subst e; rcases h0 with h0 | h0; omega; exact hk h0)⟩
theorem KeepNew.grown {K : Nat → Prop} {C : Nat} {X Y : World} {row : Option Nat} (h : X.grownBy Y row) (hr : ∀ r, row = some r → r < C ∧ ¬ K r) : KeepNew K C X Y :=
 ⟨h.size, fun i h0 h1 => h.block i h1 (fun e => by obtain ⟨a, b⟩ := hr i e.symm; rcases h0 with h0 | h0; omega; exact b h0)⟩
/-- an invariant on what lies ahead of B. -/
def AheadOf {α : Type} (B : Nat) (I : List α → World → Prop) : Prop := ∀ s A W row, I s A → A.grownBy W row → (∀ r, row = some r → B ≤ r) → I s W
/-- the contract of such an iterator. -/
def SeqCells {α : Type} (F : Fence) (n : Nat) (P : Program) (g : Nat) (lb : Array Value) (encs : α → Array Value) (S : List α → Prop) (N : Nat) (K : Nat → Prop) (w : World) : Prop :=
 ∀ (l : Nat) (J : List α → World → Prop) (W : World), Below w.heap.size w W → AheadOf W.heap.size J →
  (∀ pre x W1, J pre W1 → W.heap.size ≤ W1.heap.size → pre.length < N → YieldAt F (n - 1) P l (encs x) W1 fun e W' => e = .returned (.bool true) ∧ J (pre ++ [x]) W' ∧ KeepNew K W.heap.size W1 W') →
  J [] W → CallsIn F n P g (#[.func (.yield l) #[] #[]] ++ lb) W fun e W' => (∃ v, e = .returned v) ∧ ∃ xs, S xs ∧ J xs W'
section
variable {F : Fence} {n : Nat} {P : Program}
theorem rangeFunc_cells {α : Type} {g : Operand} {ps : Array Tmp} {assign body : Code} {Q : Exit → Act → World → Prop} {a : Act} {w : World}
  (hro : F.round = none) (h1 : 1 ≤ n) {gf : Nat} {lb : Array Value} (hg : a.eval g = .func (.func gf) #[] lb) (hFg : F.fn gf) (eg : ∀ args w, (callFunc gf args).run P w = .ok (.enter gf args) w)
  {encs : α → Array Value} {S : List α → Prop} {N : Nat} {K : Nat → Prop} {w0 : World} (hseq : SeqCells F (n - 1) P gf lb encs S N K w0) (hK : ∀ k, K k → k < w.heap.size) (hb0 : Below w0.heap.size w0 w) (hps : ∀ x, (encs x).size = ps.size)
  (I : List α → World → Prop) (hI : AheadOf w.heap.size I) (h0 : I [] w)
  (hround : ∀ (l : Nat) (pre : List α) (x : α) (W : World), I pre W → w.heap.size + 2 ≤ W.heap.size → pre.length < N →
   assign.wpIn (F.inRound l) (n - 1 - 1) P (Exit.then (fun a1 W1 => KeepNew K w.heap.size W W1 ∧ I pre W1 ∧ ∀ W2, W1.grownBy W2 (some (w.heap.size + 1)) → I pre W2 →
    body.wpIn (F.inRound l) (n - 1 - 1) P (fun e _ W3 => e = .normal ∧ KeepNew K w.heap.size W2 W3 ∧ I (pre ++ [x]) W3) a1 W2) (fun _ _ _ => False)) { tmps := (ps.zip (encs x)).foldl (fun t (p, v) => t.setIfInBounds p v) a.tmps, defers := [] } W)
  (hdone : ∀ (D : Nat) (xs : List α) (W : World), w.heap.size ≤ D → S xs → I xs W → W.heap[D]? = some (.deferred (some [])) → Q .normal { a with defers := { target := .collected D, args := #[] } :: a.defers } W) :
  (Code.rangeFunc g ps assign body).wpIn F n P Q a w := by
 refine wpIn_rangeFunc ?_
 intro fn hfn
 rw [hro]
 obtain ⟨rec, hrec⟩ : ∃ rec : LoopState → Option Code → Loop, rec = fun st pe => { state := st, pending := pe, fn, tmps := a.tmps, params := ps, assign, body, defers := w.heap.size } := ⟨_, rfl⟩
 obtain ⟨W1, hW1⟩ : ∃ W1, (w.alloc (.deferred (some []))).alloc (.loop (rec .ready none)) = W1 := ⟨_, rfl⟩
 have hz : W1.heap.size = w.heap.size + 2 := by rw [← hW1]; simp
 have hL1 : W1.heap[w.heap.size + 1]? = some (.loop (rec .ready none)) := by
  rw [← hW1]; have := World.alloc_heap_new (w.alloc (.deferred (some []))) (.loop (rec .ready none)); rwa [World.size_alloc] at this
 have hK1 : W1.heap[w.heap.size]? = some (.deferred (some [])) := by
  rw [← hW1]; exact (Below.heap_alloc _ _ _ (by simp)).trans (World.alloc_heap_new w _)
 have hg1 : w.grownBy W1 none := by rw [← hW1]; exact ⟨rfl, rfl, rfl, by simp; omega, fun i hi _ => (Below.heap_alloc _ _ _ (by simp; omega)).trans (Below.heap_alloc _ _ _ hi)⟩
 have hI1 : I [] W1 := hI _ _ _ none h0 hg1 (by simp)
 have hb1 : Below w0.heap.size w0 W1 := by
  rw [← hW1]; exact hb0.trans ((((Below.refl _ w).alloc (Nat.le_refl _) _).alloc (by simp) _).mono hb0.size)
 have hK1n : ¬ K (w.heap.size + 1) := fun e => by have := hK _ e; omega
 have hIp : ∀ (s : List α) (W : World) (o : Obj), I s W → I s (W.putObj (w.heap.size + 1) o) := fun s W o h => hI _ _ _ (some (w.heap.size + 1)) h (grownBy_putObj' _ _ _) (by simp)
 refine ⟨w.heap.size + 1, [{ target := .collected w.heap.size, args := #[] }], W1, { target := .fn (.func gf) lb, args := #[.func (.yield (w.heap.size + 1)) #[] #[]] }, W1, gf,
  #[.func (.yield (w.heap.size + 1)) #[] #[]] ++ lb, W1, ?_, ?_, ?_, ?_, fun _ => h1, ?_⟩
 ·rw [← hW1, hrec]; exact run_enterLoop_outer _ _ _ _ _
 ·simp only [resolve, hg]
  simp [go_sem]
 ·intro f' hf'; simp [Target.leads] at hf'; subst hf'; exact hFg
 ·simp [invoke, go_sem, eg]
 ·have keeps : ∀ {A B : World} {row : Option Nat} {k : Nat} {o : Obj}, k < w.heap.size + 2 → A.grownBy B row → (∀ r, row = some r → W1.heap.size ≤ r) → A.heap[k]? = some o → B.heap[k]? = some o :=
   fun {A B row k o} hk hg' hr h => (hg'.block k (Array.getElem?_eq_some_iff.1 h).1 (fun e => by have := hr k e.symm; omega)).trans h
  refine (hseq (w.heap.size + 1)
   (fun pre W => I pre W ∧ W.heap[w.heap.size + 1]? = some (.loop (rec .ready none)) ∧ W.heap[w.heap.size]? = some (.deferred (some [])))
   W1 hb1
   (fun s A B row hs hg' hr => ⟨hI s A B row hs.1 hg' (fun r e => by have := hr r e; omega), keeps (by omega) hg' hr hs.2.1, keeps (by omega) hg' hr hs.2.2⟩)
   ?_ ⟨hI1, hL1, hK1⟩).mono ?_
  ·rintro pre x W ⟨hi, hl, hk⟩ hsz hlen
   have hlt : w.heap.size + 1 < W.heap.size := (Array.getElem?_eq_some_iff.1 hl).1
   have hy := run_yield (P := P) (args := encs x) hl (by rw [hrec]; exact hps x)
   rw [hrec] at hy
   refine ⟨fn, _, assign, body, hy, roundIn_of_wpIn hfn (wpIn_mono (hround _ pre x W hi (by omega) hlen) ?_)⟩
   clear hy
   intro e a1 Wa hp
   cases e with
   | normal =>
    obtain ⟨hka, hia, hbody⟩ := hp
    have hl' := (hka.same _ (.inl (by omega)) (by omega)).trans hl
    have hk' := (hka.same _ (.inl (Nat.le_refl _)) (by omega)).trans hk
    have hlt' : w.heap.size + 1 < Wa.heap.size := (Array.getElem?_eq_some_iff.1 hl').1
    refine ⟨_, run_beginRound hl' (by rw [hrec]), ?_⟩
    have hl2 : (Wa.putObj (w.heap.size + 1) (.loop { rec .ready none with state := .busy })).heap[w.heap.size + 1]? = some (.loop { rec .ready none with state := .busy }) := World.putObj_heap_same hlt'
    have hk2 : (Wa.putObj (w.heap.size + 1) (.loop { rec .ready none with state := .busy })).heap[w.heap.size]? = some (.deferred (some [])) := (World.putObj_heap_other (by omega)).trans hk'
    refine wpIn_mono (hbody _ (grownBy_putObj' _ _ _) (hIp _ _ _ hia)) ?_
    rintro e a3 W3 ⟨rfl, hk3, hi3⟩
    have hl3 := (hk3.same (w.heap.size + 1) (.inl (by omega)) (Array.getElem?_eq_some_iff.1 hl2).1).trans hl2
    have hkk3 := (hk3.same w.heap.size (.inl (Nat.le_refl _)) (Array.getElem?_eq_some_iff.1 hk2).1).trans hk2
    have hr := run_endRound (P := P) none hl3
    rw [hrec] at hr
    refine ⟨_, _, hr, rfl, ⟨hIp _ _ _ hi3, ?_, (World.putObj_heap_other (by omega)).trans hkk3⟩, ?_⟩
    ·rw [hrec]; exact World.putObj_heap_same (Array.getElem?_eq_some_iff.1 hl3).1
    ·exact ((hka.le (by omega)).trans (KeepNew.put _ (by omega) hK1n)).trans ((hk3.le (by omega)).trans (KeepNew.put _ (by omega) hK1n))
   | _ => exact hp.elim
  ·rintro e W2 ⟨⟨v, rfl⟩, xs, hS, hi, hl, hk⟩
   exact ⟨none, _, by have := run_endLoop (P := P) hl (by rw [hrec]; simp); rw [hrec] at this; exact this, hdone _ xs _ (Nat.le_refl _) hS (hIp _ _ _ hi) ((World.putObj_heap_other (by omega)).trans hk)⟩
end
end Go.Proofs.YtngpopalpofhgaaGreatDoor

namespace Go.Proofs.YtngpopalpofhgaaGreatDoor
set_option maxRecDepth 100000
def permB (n : Nat) (w : List Int) : List Int := invL (row5 (idL n) w)
end Go.Proofs.YtngpopalpofhgaaGreatDoor

namespace Go.Proofs.YtngpopalpofhgaaGreatDoor
/-- what the moves of letters between simple braids need. -/
structure Gar (S : Type) where
 N : Nat
 V : S → Prop
 B : S → Nat → Bool
 E : S → Nat → Bool
 fr : S → Nat → S
 bk : S → Nat → S
 ht : S → Nat
 K : Nat
 vfr : ∀ {b i}, V b → i < N → V (fr b i)
 vbk : ∀ {b i}, V b → i < N → V (bk b i)
 hK : ∀ {b}, V b → ht b < K
 lbk : ∀ {b i}, V b → i < N → E b i = false → ht (bk b i) < ht b
 farF : ∀ {b i j}, V b → i < N → j < N → i + 1 < j → B (fr b i) j = B b j ∧ B (fr b j) i = B b i ∧ fr (fr b i) j = fr (fr b j) i
 farB : ∀ {b i j}, V b → i < N → j < N → i + 1 < j → E (bk b i) j = E b j ∧ E (bk b j) i = E b i ∧ bk (bk b i) j = bk (bk b j) i
 nearF : ∀ {b i}, V b → i + 1 < N → B b i = true → B b (i + 1) = true → (B (fr b i) (i + 1) = true ∧ B (fr (fr b i) (i + 1)) i = true) ∧ (B (fr b (i + 1)) i = true ∧ B (fr (fr b (i + 1)) i) (i + 1) = true) ∧ fr (fr (fr b i) (i + 1)) i = fr (fr (fr b (i + 1)) i) (i + 1)
 nearB : ∀ {b i}, V b → i + 1 < N → E b i = false → E b (i + 1) = false → (E (bk b i) (i + 1) = false ∧ E (bk (bk b i) (i + 1)) i = false) ∧ (E (bk b (i + 1)) i = false ∧ E (bk (bk b (i + 1)) i) (i + 1) = false) ∧ bk (bk (bk b i) (i + 1)) i = bk (bk (bk b (i + 1)) i) (i + 1)
 mid : ∀ {b i j}, V b → i < N → j < N → B b i = true → E b j = false → E (fr b i) j = false ∧ B (bk b j) i = true ∧ fr (bk b j) i = bk (fr b i) j
section
variable {S : Type} (G : Gar S)
inductive Pull : List S → List S → Prop
 | here (a b : S) (X : List S) (i : Nat) : i < G.N → G.B b i = true → G.E a i = false → Pull (a :: b :: X) (G.bk a i :: G.fr b i :: X)
 | there (a : S) {X Y : List S} : Pull X Y → Pull (a :: X) (a :: Y)
inductive Star : List S → List S → Prop
 | refl (X : List S) : Star X X
 | step {X Y Z : List S} : Pull G X Y → Star Y Z → Star X Z
def Vs (X : List S) : Prop := ∀ x ∈ X, G.V x
variable {G}
theorem Star.trans {X Y Z : List S} (h : Star G X Y) (k : Star G Y Z) : Star G X Z := by
 induction h with
 | refl => exact k
 | step p _ ih => exact .step p (ih k)
theorem Star.there (a : S) {X Y : List S} (h : Star G X Y) : Star G (a :: X) (a :: Y) := by
 induction h with
 | refl => exact .refl _
 | step p _ ih => exact .step (.there a p) ih
theorem Pull.vs {X Y : List S} (h : Pull G X Y) (hv : Vs G X) : Vs G Y := by
 induction h with
 | here a b X i h1 h2 h3 =>
  intro x hx
  rcases List.mem_cons.1 hx with rfl | hx
  ·exact G.vbk (hv a (by simp)) h1
  ·rcases List.mem_cons.1 hx with rfl | hx
   ·exact G.vfr (hv b (by simp)) h1
   ·exact hv x (by simp [hx])
 | there a p ih =>
  intro x hx
  rcases List.mem_cons.1 hx with rfl | hx
  ·exact hv x (by simp)
  ·exact ih (fun y hy => hv y (by simp [hy])) x hx
theorem Star.vs {X Y : List S} (h : Star G X Y) (hv : Vs G X) : Vs G Y := by
 induction h with
 | refl => exact hv
 | step p _ ih => exact ih (p.vs hv)
theorem Pull.length {X Y : List S} (h : Pull G X Y) : Y.length = X.length := by
 induction h with
 | here => rfl
 | there a _ ih => simp [ih]
theorem Star.length {X Y : List S} (h : Star G X Y) : Y.length = X.length := by
 induction h with
 | refl => rfl
 | step p _ ih => rw [ih, p.length]
end
end Go.Proofs.YtngpopalpofhgaaGreatDoor

namespace Go.Proofs.YtngpopalpofhgaaGreatDoor
/-- .. with no crossing, the half twist, complements, and the braid from the right. -/
structure GarT (S : Type) extends Gar S where
 e : S
 D : S
 fl : S → S
 co : S → S
 ve : V e
 vD : V D
 vfl : ∀ {a}, V a → V (fl a)
 vco : ∀ {a}, V a → V (co a)
 Be : ∀ {i}, i < N → B e i = false
 ED : ∀ {i}, i < N → E D i = true
 isE : ∀ {b}, V b → (∀ i, i < N → E b i = false) → b = e
 isD : ∀ {b}, V b → (∀ i, i < N → E b i = true) → b = D
 Ebk : ∀ {b i}, V b → i < N → E (bk b i) i = !E b i
 bkbk : ∀ {b i}, V b → i < N → bk (bk b i) i = b
 letB : ∀ {i}, i < N → B (fr e i) i = true
 letF : ∀ {i}, i < N → fr (fr e i) i = e
 letK : ∀ {i}, i < N → bk e i = fr e i
 flB : ∀ {a i}, V a → i < N → B (fl a) (N - 1 - i) = B a i
 flE : ∀ {a i}, V a → i < N → E (fl a) (N - 1 - i) = E a i
 flfr : ∀ {a i}, V a → i < N → fl (fr a i) = fr (fl a) (N - 1 - i)
 flbk : ∀ {a i}, V a → i < N → fl (bk a i) = bk (fl a) (N - 1 - i)
 flfl : ∀ {a}, V a → fl (fl a) = a
 fle : fl e = e
 flD : fl D = D
 coB : ∀ {a i}, V a → i < N → B (co a) i = !E a i
 cofr : ∀ {a i}, V a → i < N → fr (co a) i = co (bk a i)
 coD : co D = e
 coe : co e = D
 coco : ∀ {a}, V a → co (co a) = fl a
 frD : ∀ {i}, i < N → fr D (N - 1 - i) = bk D i
section
variable {S : Type} {T : GarT S}
theorem Pull.map {X Y : List S} (h : Pull T.toGar X Y) (hv : Vs T.toGar X) : Pull T.toGar (X.map T.fl) (Y.map T.fl) := by
 induction h with
 | here a b X i h1 h2 h3 =>
  have va := hv a (by simp)
  have vb := hv b (by simp)
  rw [List.map_cons, List.map_cons, List.map_cons, List.map_cons, T.flbk va h1, T.flfr vb h1]
  exact .here _ _ _ (T.N - 1 - i) (by omega) (by rw [T.flB vb h1]; exact h2) (by rw [T.flE va h1]; exact h3)
 | there a p ih => exact .there _ (ih fun x hx => hv x (by simp [hx]))
theorem Star.map {X Y : List S} (h : Star T.toGar X Y) (hv : Vs T.toGar X) : Star T.toGar (X.map T.fl) (Y.map T.fl) := by
 induction h with
 | refl => exact .refl _
 | step p _ ih => exact .step (p.map hv) (ih (p.vs hv))
end
end Go.Proofs.YtngpopalpofhgaaGreatDoor

namespace Go.Proofs.YtngpopalpofhgaaGreatDoor
set_option maxRecDepth 100000
theorem swp_atD {p : List Int} {i : Nat} (hi : i + 1 < p.length) {x : Int} (h0 : 0 ≤ x) : atD 0 (swpL p i) x = atD 0 p (sw i ((i : Int) + 1) x) := by
 have e : swpL p i = (p.set ((i : Int)).toNat (atD 0 p ((i : Int) + 1))).set ((i : Int) + 1).toNat (atD 0 p (i : Int)) := by
  have e1 : (i : Int).toNat = i := by omega
  have e2 : ((i : Int) + 1).toNat = i + 1 := by omega
  unfold swpL atD
  rw [e1, e2]
 rw [e, atD_set (by omega) (by rw [List.length_set]; omega) h0, atD_set (by omega) (by omega) h0]
 unfold sw
 by_cases a : x = (i : Int) + 1
 ·rw [if_pos a, if_neg (by omega), if_pos a]
 ·rw [if_neg a]
  by_cases b : x = (i : Int)
  ·rw [if_pos b, if_pos b]
  ·rw [if_neg b, if_neg b, if_neg a]
theorem swp_length (p : List Int) (i : Nat) : (swpL p i).length = p.length := by unfold swpL; simp
theorem swp_isP {p : List Int} (h : IsP p) {i : Nat} (hi : i + 1 < p.length) : IsP (swpL p i) := by
 have rg : ∀ x : Int, 0 ≤ x → x < p.length → 0 ≤ sw i ((i : Int) + 1) x ∧ sw i ((i : Int) + 1) x < p.length := fun x a b => sw_rng ⟨by omega, by omega⟩ ⟨by omega, by omega⟩ ⟨a, b⟩
 refine ⟨fun x x0 x1 => ?_, fun x y x0 x1 y0 y1 e => ?_⟩
 ·rw [swp_length] at x1 ⊢
  rw [swp_atD hi x0]
  exact h.rng _ (rg x x0 x1).1 (rg x x0 x1).2
 ·rw [swp_length] at x1 y1
  rw [swp_atD hi x0, swp_atD hi y0] at e
  have := congrArg (sw i ((i : Int) + 1)) (h.inj _ _ (rg x x0 x1).1 (rg x x0 x1).2 (rg y y0 y1).1 (rg y y0 y1).2 e)
  rwa [sw_sw, sw_sw] at this
theorem inv_uniq {p q : List Int} (hp : IsP p) (hq : q.length = p.length) (h : ∀ x : Int, 0 ≤ x → x < p.length → 0 ≤ atD 0 q x ∧ atD 0 q x < p.length ∧ atD 0 p (atD 0 q x) = x) : invL p = q := by
 refine ext_atD (by rw [invL_len, hq]) fun j j0 j1 => ?_
 rw [invL_len] at j1
 obtain ⟨a, b, c⟩ := h j j0 j1
 have := invL_left hp a b
 rwa [c] at this
/-- a permutation of n positions. -/
def VP (n : Nat) (p : List Int) : Prop := IsP p ∧ p.length = n
def bkP (p : List Int) (i : Nat) : List Int := invL (swpL (invL p) i)
section
variable {n : Nat} {p : List Int} {i : Nat}
theorem VP.inv (h : VP n p) : VP n (invL p) := ⟨invL_isP h.1, by rw [invL_len, h.2]⟩
theorem VP.ext (h : VP n p) {q : List Int} (k : q.length = n) (e : ∀ x : Int, 0 ≤ x → x < n → atD 0 p x = atD 0 q x) : p = q := ext_atD (by rw [h.2, k]) fun j j0 j1 => e j j0 (by rw [← h.2]; exact j1)
theorem VP.fr (h : VP n p) (hi : i + 1 < n) : VP n (swpL p i) := ⟨swp_isP h.1 (by rw [h.2]; exact hi), by rw [swp_length, h.2]⟩
theorem VP.bk (h : VP n p) (hi : i + 1 < n) : VP n (bkP p i) := (h.inv.fr hi).inv
end
end Go.Proofs.YtngpopalpofhgaaGreatDoor

namespace Go.Proofs.YtngpopalpofhgaaGreatDoor
set_option maxRecDepth 100000
/-- the letters with the strands that stand at their positions before them. -/
def csB : List Int → List Int → List (Int × Int × Int)
 | _, [] => []
 | st, x :: r => (x, atD 0 st (absI x - 1), atD 0 st (absI x)) :: csB (swapL st (absI x)) r
theorem csB_len : ∀ (w st : List Int), (csB st w).length = w.length
 | [], _ => rfl
 | x :: r, st => by rw [csB, List.length_cons, csB_len r, List.length_cons]
theorem row5_snoc2 : ∀ (a st : List Int) (x : Int), row5 st (a ++ [x]) = swapL (row5 st a) (absI x)
 | [], st, x => rfl
 | y :: r, st, x => by rw [List.cons_append, row5, row5, row5_snoc2 r]
/-- one more letter: what the iterator yields next. -/
theorem csB_snoc : ∀ (a st : List Int) (x : Int), csB st (a ++ [x]) = csB st a ++ [(x, atD 0 (row5 st a) (absI x - 1), atD 0 (row5 st a) (absI x))]
 | [], st, x => rfl
 | y :: r, st, x => by rw [List.cons_append, csB, csB, csB_snoc r, row5]; rfl
theorem csB_take (st w : List Int) {j : Nat} (h : j < w.length) : csB st (w.take (j + 1)) = csB st (w.take j) ++ [(atD 0 w j, atD 0 (row5 st (w.take j)) (absI (atD 0 w j) - 1), atD 0 (row5 st (w.take j)) (absI (atD 0 w j)))] := by
 have e : w.take (j + 1) = w.take j ++ [atD 0 w j] := by rw [List.take_succ_eq_append_getElem h]; simp [atD, h]
 rw [e, csB_snoc]
theorem row5_take (st w : List Int) {j : Nat} (h : j < w.length) : row5 st (w.take (j + 1)) = swapL (row5 st (w.take j)) (absI (atD 0 w j)) := by
 have e : w.take (j + 1) = w.take j ++ [atD 0 w j] := by rw [List.take_succ_eq_append_getElem h]; simp [atD, h]
 rw [e, row5_snoc2]
/-- a strand goes one on, another one back. -/
def incP (p : List Int) (a b : Int) : List Int := (p.set a.toNat (atD 0 p a + 1)).set b.toNat (atD 0 (p.set a.toNat (atD 0 p a + 1)) b - 1)
theorem incP_len (p : List Int) (a b : Int) : (incP p a b).length = p.length := by simp [incP]
theorem perm_fold : ∀ (w st p : List Int), IsP st → p.length = st.length → (∀ x ∈ w, 1 ≤ absI x ∧ absI x < st.length) → (∀ j : Int, 0 ≤ j → j < st.length → atD 0 p (atD 0 st j) = j) →
  (csB st w).foldl (fun p c => incP p c.2.1 c.2.2) p = invL (row5 st w)
 | [], st, p, hp, hl, _, hi => by
   rw [csB, List.foldl_nil, row5]
   refine (inv_uniq hp hl fun x x0 x1 => ?_).symm
   have hx := invL_right hp x0 x1
   have hr := (invL_isP hp).rng x x0 (by rw [invL_len]; exact x1)
   rw [invL_len] at hr
   have := hi _ hr.1 hr.2
   rw [hx] at this
   rw [this]
   exact ⟨hr.1, hr.2, hx⟩
 | x :: r, st, p, hp, hl, hf, hi => by
   obtain ⟨a, b⟩ := hf x (by simp)
   rw [csB, List.foldl_cons, row5]
   have hq := swapL_isP a b hp
   refine perm_fold r _ _ hq (by rw [incP_len, swapL_len, hl]) (fun y hy => by rw [swapL_len]; exact hf y (by simp [hy])) fun j j0 j1 => ?_
   rw [swapL_len] at j1
   have ha := hp.rng (absI x - 1) (by omega) (by omega)
   have hb := hp.rng (absI x) (by omega) b
   have hne : atD 0 st (absI x) ≠ atD 0 st (absI x - 1) := fun e => by
     have := hp.inj _ _ (by omega) b (by omega) (by omega) e
     omega
   have ia := hi (absI x - 1) (by omega) (by omega)
   have ib := hi (absI x) (by omega) b
   have key : ∀ y : Int, 0 ≤ y → y < st.length → atD 0 (incP p (atD 0 st (absI x - 1)) (atD 0 st (absI x))) y =
       if y = atD 0 st (absI x) then absI x - 1 else if y = atD 0 st (absI x - 1) then absI x else atD 0 p y := fun y y0 y1 => by
     unfold incP
     rw [atD_set hb.1 (by rw [List.length_set]; omega) y0, atD_set ha.1 (by omega) hb.1, if_neg hne, ib, atD_set ha.1 (by omega) y0, ia]
     split
     · rfl
     · split <;> omega
   rw [swapL_at a b j0]
   by_cases c1 : j = absI x - 1
   · rw [c1, show sw (absI x - 1) (absI x) (absI x - 1) = absI x by unfold sw; rw [if_pos rfl], key _ hb.1 hb.2, if_pos rfl]
   · by_cases c2 : j = absI x
     · rw [c2, show sw (absI x - 1) (absI x) (absI x) = absI x - 1 by unfold sw; rw [if_neg (by omega), if_pos rfl], key _ ha.1 ha.2, if_neg (Ne.symm hne), if_pos rfl]
     · have hj := hp.rng j j0 j1
       rw [show sw (absI x - 1) (absI x) j = j by unfold sw; rw [if_neg c1, if_neg c2], key _ hj.1 hj.2, if_neg (fun e => c2 (hp.inj _ _ j0 j1 (by omega) b e)), if_neg (fun e => c1 (hp.inj _ _ j0 j1 (by omega) (by omega) e))]
       exact hi j j0 j1
/-- the permutation of a word. -/
theorem permB_fold {n : Nat} {w : List Int} (hf : ∀ x ∈ w, 1 ≤ absI x ∧ absI x < (n : Int)) : (csB (idL n) w).foldl (fun p c => incP p c.2.1 c.2.2) (idL n) = permB n w := by
 refine perm_fold w (idL n) (idL n) (idL_isP n) rfl (fun x hx => by rw [idL_len]; exact hf x hx) fun j j0 j1 => ?_
 rw [idL_len] at j1
 rw [idL_at j0 j1, idL_at j0 j1]
end Go.Proofs.YtngpopalpofhgaaGreatDoor

namespace Go.Proofs.YtngpopalpofhgaaGreatDoor
open Go.RowKit
set_option maxHeartbeats 4000000
set_option maxRecDepth 100000
theorem babs_any (n : Int) (w : World) (h : -9223372036854775807 ≤ n) (h2 : n ≤ 9223372036854775807) :
  Calls Tryz.prog 161 #[.int .i64 n] w fun r w' => r = .returned (.int .i64 (absI n)) ∧ w = w' := by
 have hw : IntKind.i64.wrap (-n) = -n := IntWalk.i64_in _ (by omega)
 have hm : max n (-n) = absI n := by unfold absI; split <;> omega
 go_enter Tryz.func161, Tryz.ntmps161
 go_wp2
 go_ret
 exact ⟨by first | rfl | rw [← hm] | simp [hm], rfl⟩
/-- the identity while it is set. -/
def idZ (n k : Nat) : List Int := idL k ++ List.replicate (n - k) 0
theorem idZ_len {n k : Nat} (h : k ≤ n) : (idZ n k).length = n := by unfold idZ; rw [List.length_append, idL_len, List.length_replicate]; omega
theorem idZ_set {n k : Nat} (h : k < n) : (idZ n k).set (k : Int).toNat (k : Int) = idZ n (k + 1) := by
 unfold idZ
 rw [show (k : Int).toNat = k by omega, List.set_append_right _ _ (by rw [idL_len]; omega), idL_len, Nat.sub_self, show n - k = (n - (k + 1)) + 1 by omega, List.replicate_succ, List.set_cons_zero, idL_succ]
 simp
theorem bidentity_any (n : Nat) (w : World) (hn : n ≤ 1000) :
  Calls Tryz.prog 120 #[.int .i64 n] w fun r w' => ∃ v, r = .returned v ∧ OwnI w.heap.size w' v (idL n) ∧ Below w.heap.size w w' := by
 have hS0 := SL.nil w
 go_enter Tryz.func120, Tryz.ntmps120
 go_wp2_with ((with_reducible refine wpList_makeL (c := cInt) (n) (0) E_ints cInt1 wU wU (by omega) (by omega) (hS0) ?_); intro ad w1 hS1)
 have hz : List.replicate n (0 : Int) = idZ n 0 := by unfold idZ idL; simp
 rw [hz] at hS1
 go_loopw [9, 4] (fun iv _ wr => ∃ k : Nat, k ≤ n ∧ iv = .int .i64 k ∧ SL w.heap.size w wr [pOwn cInt 1 3 (.slice ad n n) (idZ n k)]) (fun iv _ _ => n - (intOf iv).toNat)
 case atStart => exact ⟨0, by omega, rfl, hS1⟩
 case round =>
  clear hS1 hz
  obtain ⟨k, hk, rfl, hSr⟩ := hrel
  have hl := idZ_len hk
  by_cases hlt : k < n
  ·have hs := idZ_set hlt
   have HS := hid hs
   have HL := hid hl
   obtain ⟨O, hO⟩ : ∃ O, O = idZ n k := ⟨_, rfl⟩
   rw [← hO] at hSr hl
   have HO := hid hO
   clear hs hO
   have hkO : (k : Int) < (O.length : Int) := by rw [hl]; omega
   go_wp2_with ((with_reducible refine wpList_storeL (u := (k : Int)) 0 E_ints cInt1 (sto_int) wU wU (hSr) wU (by first | omega | (simp; done) | (simp; omega)) (by first | omega | (simp; done) | (simp; omega)) (fun _ => wU) (fun _ => wU) ?_); intro _ w7 hS7)
   exact ⟨⟨k + 1, by omega, by go_num, by rw [← HS.out, ← HO.out]; exact hS7⟩, by simp [intOf]; omega⟩
  ·have hkk : k = n := by omega
   subst hkk
   have hid' : idZ k k = idL k := by unfold idZ; simp
   rw [hid'] at hSr
   clear hid' hl hlt
   go_wp2_with fail
   go_ret
   exact ⟨_, rfl, hSr.own 0 rfl, hSr.b⟩
theorem blimited_any (a : Option Addr) (cap : Nat) (l : List Int) (w : World) (h : l.length ≤ 200) :
  Calls Tryz.prog 60 #[.slice a l.length cap] w fun r w' => r = .returned (.tuple #[.slice a l.length cap, .int .i64 0]) ∧ w = w' := by
 have d : decide (200 < (l.length : Int)) = false := decide_eq_false (by omega)
 go_enter Tryz.func60, Tryz.ntmps60
 go_wp2
 go_ret2
 exact ⟨rfl, rfl⟩
end Go.Proofs.YtngpopalpofhgaaGreatDoor

namespace Go.Proofs.YtngpopalpofhgaaGreatDoor
open Go.RowKit Go.Shelf
attribute [local go_sem] Oper.semAt_some
set_option maxHeartbeats 8000000
set_option maxRecDepth 100000
section
variable {α : Type} {c : α → Value} {sz B : Nat} {K : Nat → Prop} {e : TypeId} {w0 w W' : World} {v : Value} {l : List α}
theorem Own.keepNew (h : Own c sz B e w v l) (hk : KeepNew K B w W') : Own c sz B e W' v l := by
 obtain ⟨h1, h2, h3⟩ := h
 refine ⟨h1, h2, ?_⟩
 rcases h3 with h3 | ⟨g, cap, cur, hv, hB, hg, r⟩
 ·exact .inl h3
 ·exact .inr ⟨g, cap, cur, hv, hB, by rw [hk.same g (.inl hB) ((Array.getElem?_eq_some_iff.1 hg).1)]; exact hg, r⟩
/-- an own row, told of a world behind which blocks below B have turned. -/
theorem SL.keepNew (h : SL B w0 w [pOwn c sz e v l]) (hk : KeepNew K B w W') : SL B W' W' [pOwn c sz e v l] := by
 have ho := (h.own 0 rfl).keepNew hk
 refine ⟨Below.refl _ _, Nat.le_trans h.z hk.size, fun _ => v.ownBlock, fun i p hi => ?_, fun i j k hij hj => ?_⟩
 ·rcases i with _ | i
  ·cases hi
   exact ⟨⟨ho.mono (Nat.zero_le _), rfl⟩, fun k e => (ho.lt k e).1⟩
  ·simp at hi
 ·simp at hj; omega
end
section
variable {ops : Array Oper} {rest : List Oper} {a : Act} {Q : Exit → Act → World → Prop} {w : World} {ty : TypeId} {p : String} {af : Array Edge}
theorem wpList_stoIc {x y : Operand} {pa : Addr} {u : Value} {v : Int} (hx : a.eval x = .pointer (some pa)) (hy : a.eval y = .int .i64 v) (hc : w.cell? pa = some u) (hf : w.frozen? pa = false)
  (h : wpList Tryz.prog ops Q rest (a.put none undef) (w.setCell pa (.int .i64 v))) :
  wpList Tryz.prog ops Q (⟨none, .store 3 x y, ty, p, af, none⟩ :: rest) a w := by
 refine wpList_plain rfl fun K hK' => ?_
 have hs := sto_int v w pa (by rw [hc]; rfl) hf
 unfold cInt at hs
 unfold Oper.wp
 simp only [execOp, hx, hy]
 simp [hs, Result.andThen]
 exact hK' _ _ h
end
theorem wrapP1c (p : Nat) (h : p < 1000) : IntKind.i64.wrap ((p : Int) + 1) = (p : Int) + 1 := IntWalk.i64_in _ (by omega)
theorem wrapQ1c (p : Nat) (h : p < 1000) : wrap64 ((p : Int) + 1) = (p : Int) + 1 := IntWalk.wrap64_in _ (by omega)
theorem pkBc (p K : Nat) (h : p + 1 < K) : (¬ (K : Int) ≤ (p : Int) + 1) ∧ (0 : Int) ≤ (p : Int) + 1 ∧ ¬ K ≤ p ∧ ¬ (K : Int) ≤ (p : Int) ∧ (p : Int) + 1 < K ∧ p < K := by
 refine ⟨?_, ?_, ?_, ?_, ?_, ?_⟩ <;> omega
theorem grown_setG (w : World) (k j : Nat) (u : Value) : w.grownBy (w.setCell ⟨k, j, none⟩ u) (some k) :=
 ⟨rfl, rfl, rfl, by simp [World.setCell], fun m hm hne => Below.heap_setCell _ _ _ _ (fun e => hne (by rw [e]))⟩
/-- a crossing of a word on n strands. -/
def CrOk (n : Nat) (c : Int × Int × Int) : Prop := (1 ≤ absI c.1 ∧ absI c.1 < (n : Int)) ∧ (0 ≤ c.2.1 ∧ c.2.1 < (n : Int)) ∧ (0 ≤ c.2.2 ∧ c.2.2 < (n : Int)) ∧ c.2.1 ≠ c.2.2
abbrev CrS (n : Nat) := { c : Int × Int × Int // CrOk n c }
def crV {n : Nat} (x : CrS n) : Array Value := #[.int .i64 x.1.1, .agg #[.int .i64 x.1.2.1, .int .i64 x.1.2.2]]
/-- what the iterator must find again: its two boxes and the word. -/
def crK (bn bw : Nat) (ad : Option Addr) (m k : Nat) : Prop := k = bn ∨ k = bw ∨ (0 < m ∧ ∃ b, ad = some b ∧ k = b.block)
theorem crossings1_in (mm l bn bw cap : Nat) (ad : Option Addr) (n : Nat) (ws : List Int) (hn : n ≤ 1000) (hl : ws.length ≤ 1048576) (hf : ∀ x ∈ ws, 1 ≤ absI x ∧ absI x < (n : Int)) (hm : 1 ≤ mm) (J : List (CrS n) → World → Prop)
  (W : World) (hJ : AheadOf W.heap.size J)
  (hY : ∀ pre (x : CrS n) W1, J pre W1 → W.heap.size ≤ W1.heap.size → pre.length < ws.length → YieldAt Fence.wide (mm - 1) Tryz.prog l (crV x) W1 fun e W' => e = .returned (.bool true) ∧ J (pre ++ [x]) W' ∧ KeepNew (crK bn bw ad ws.length) W.heap.size W1 W')
  (hWn : W.cell? ⟨bn, 0, none⟩ = some (.int .i64 n)) (hWw : W.cell? ⟨bw, 0, none⟩ = some (.slice ad ws.length cap)) (hS : Ints W ad cap ws) (h0 : J [] W) :
  CallsIn Fence.wide mm Tryz.prog 160 #[.func (.yield l) #[] #[], .pointer (some ⟨bn, 0, none⟩), .pointer (some ⟨bw, 0, none⟩)] W fun e W' => (∃ v, e = .returned v) ∧
   ∃ ys : List (CrS n), ys.map (·.1) = csB (idL n) ws ∧ J ys W' := by
 have HI := hid (bidentity_any n W hn)
 refine callsIn_of_wp Tryz.func160 rfl trivial ?_ rfl
 simp only [Tryz.ntmps160, List.size_toArray, List.length_cons, List.length_nil, Nat.reduceAdd, Nat.reduceSub, Array.replicate_succ, Array.replicate_zero, List.push_toArray, List.append_toArray, List.nil_append, List.cons_append]
 gi_wp2
 refine ⟨trivial, (callsIn_wide.2 HI.out).mono ?_⟩
 rintro e w2 ⟨v, rfl, ho, b2⟩
 have hS2 := SL.ofOwn ho b2
 have J2 := hJ _ _ _ none h0 (grown_of_below b2) (by simp)
 obtain ⟨g, gcap, hv, -⟩ := hS2.slice 0 rfl
 subst hv
 have z2 := hS2.z
 have hkw : ∀ bl : Nat, bl < W.heap.size → w2.heap[bl]? = W.heap[bl]? := fun bl h => b2.block bl h
 have cn2 : w2.cell? ⟨bw, 0, none⟩ = some (.slice ad ws.length cap) := (b2.cell (p := ⟨bw, 0, none⟩) (World.block_lt_of_cell? W _ hWw)).trans hWw
 have hI2 : Ints w2 ad cap ws := hS.below b2
 have hbB : ∀ b, ad = some b → 0 < ws.length → b.block < W.heap.size := fun b e h => by
  obtain ⟨b', o', hb', hcx⟩ := hS.cells (by decide) 0 0 h
  have hcx := hcx 0 (.int .i64 (atD 0 ws 0)) rfl
  rw [hb'] at e
  cases e
  exact World.block_lt_of_cell? _ _ hcx
 have hbwB : bw < W.heap.size := World.block_lt_of_cell? W _ hWw
 have HF := hid hf
 have HY := hid hY
 have HJ := hid hJ
 clear hf hY hJ hWn hWw hkw b2 HI h0 hS ho
 generalize hB : W.heap.size = B at *
 gi_wp2
 gi_loopw [12] (fun x wr => ∃ (j : Nat) (pre : List (CrS n)), j ≤ ws.length ∧ x = .int .i64 j ∧ pre.map (·.1) = csB (idL n) (ws.take j) ∧ J pre wr ∧ SL B wr wr [pOwn cInt 1 3 (.slice g (idL n).length gcap) (row5 (idL n) (ws.take j))] ∧
  wr.cell? ⟨bw, 0, none⟩ = some (.slice ad ws.length cap) ∧ Ints wr ad cap ws) (fun x _ => ws.length - (intOf x).toNat)
 case atStart => exact ⟨0, [], by omega, rfl, rfl, J2, hS2.keepNew (KeepNew.refl (crK bn bw ad ws.length) _ _), cn2, hI2⟩
 case round =>
  clear hS2 J2 cn2 hI2 z2
  obtain ⟨j, pre, hj, rfl, hpre, hJs, hSr, hcw, hIr⟩ := hrel
  have hlen : pre.length = j := by have := congrArg List.length hpre; rw [List.length_map, csB_len, List.length_take] at this; omega
  by_cases hlt : j < ws.length
  ·have hx := HF.out _ (atD_mem hlt)
   have hr5 := row5_isP (ws.take j) (idL n) (idL_isP n) (fun x hx => by rw [idL_len]; exact HF.out x (List.mem_of_mem_take hx))
   have hr5l : (row5 (idL n) (ws.take j)).length = n := by rw [row5_len, idL_len]
   have hnx := csB_take (idL n) ws hlt
   have hrx := row5_take (idL n) ws hlt
   obtain ⟨R, hR⟩ : ∃ R, R = row5 (idL n) (ws.take j) := ⟨_, rfl⟩
   rw [← hR] at hSr hr5 hr5l hnx hrx
   obtain ⟨X, hX⟩ : ∃ X, X = atD 0 ws j := ⟨_, rfl⟩
   rw [← hX] at hx hnx hrx
   obtain ⟨b, o, hb, hcx⟩ := hIr.cells (by decide) 0 j hlt
   have hcx := hcx 0 (.int .i64 X) (by rw [hX]; rfl)
   subst hb
   simp only [Nat.mul_one, Nat.add_zero] at hcx
   have hid5 := idL_len n
   have HE := hid hx
   have hX1 : -1000 ≤ X ∧ X ≤ 1000 := by have := hx; unfold absI at this; split at this <;> omega
   have HA := fun w => babs_any X w (by omega) (by omega)
   obtain ⟨p, hp⟩ : ∃ p : Nat, absI X = (p : Int) + 1 := ⟨(absI X - 1).toNat, by omega⟩
   have hp1 : p + 1 < n := by omega
   rw [hp] at HA hnx hrx
   rw [show (p : Int) + 1 - 1 = p by omega] at hnx
   have okc : CrOk n (X, atD 0 R (p : Int), atD 0 R ((p : Int) + 1)) := by
    refine ⟨hx, ?_, ?_, fun e => ?_⟩
    ·have := hr5.rng (p : Int) (by omega) (by omega); rw [hr5l] at this; exact this
    ·have := hr5.rng ((p : Int) + 1) (by omega) (by omega); rw [hr5l] at this; exact this
    ·have := hr5.inj _ _ (by omega) (by omega) (by omega) (by omega) e
     omega
   obtain ⟨G, hG, hgn, hcA, hfA, -⟩ := hSr.setOwn cInt1 0 rfl (p : Int) (by omega) (by omega) 0
   subst hG
   obtain ⟨G', hG', -, hcC, hfC, -⟩ := hSr.setOwn cInt1 0 rfl ((p : Int) + 1) (by omega) (by omega) 0
   cases hG'
   have vA : R[p]?.map cInt = some (.int .i64 (atD 0 R (p : Int))) := by
    have : p < R.length := by omega
    simp [atD, this, cInt]
   have eP1 : ((p : Int) + 1).toNat = p + 1 := by omega
   have vB : R[p + 1]?.map cInt = some (.int .i64 (atD 0 R ((p : Int) + 1))) := by
    have : p + 1 < R.length := by omega
    simp [atD, eP1, this, cInt]
   simp only [show (p : Int).toNat = p by omega, eP1] at hcA hfA hcC hfC
   rw [vA] at hcA
   rw [vB] at hcC
   rw [hid5] at hSr ⊢
   have hp9 : p < 1000 := by omega
   clear vA vB hgn eP1
   have HLN := hid hlen
   have HNX := hid hnx
   have HRX := hid hrx
   have HPRE := hid hpre
   have HL5 := hid hr5l
   obtain ⟨A0, hA0⟩ : ∃ A, A = atD 0 R (p : Int) := ⟨_, rfl⟩
   have HA0 := hid hA0
   obtain ⟨A1, hA1⟩ : ∃ A, A = atD 0 R ((p : Int) + 1) := ⟨_, rfl⟩
   have HA1 := hid hA1
   rw [← hA0] at hcA okc
   rw [← hA1] at hcC okc
   clear hA0 hA1
   have HOK := hid okc
   have HAA := hid HA
   clear HA hid5 okc hx hX1 hlen hpre hnx hrx hr5 hr5l hX hp
   gi_wp2
   refine ⟨trivial, (callsIn_wide.2 (HAA.out _)).mono ?_⟩
   rintro e w3 ⟨rfl, rfl⟩
   gi_wp2
   have hmx : Tryz.prog.follows .mixedOrders = true := by kernel_rfl
   have hwp : IntKind.i64.wrap ((p : Int) + 1) = (p : Int) + 1 := IntWalk.i64_in _ (by omega)
   refine wpIn_region_qt 12 kR hmx kR ?_
   simp only [List.take_succ_cons, List.take_zero, List.drop_succ_cons, List.drop_zero]
   refine wpQIn_val (.func (.yield l) #[] #[]) rfl (fun _ => rfl) (fun w' => by go_simp) ?_
   go_simp
   refine wpQIn_val (.int .i64 X) rfl (fun _ => rfl) (fun w' => by go_simp) ?_
   go_simp
   refine wpQIn_val (.slice (some ⟨G, 0, none⟩) n gcap) rfl (fun _ => rfl) (fun w' => by go_simp) ?_
   go_simp
   refine wpQIn_val (.int .i64 p) rfl (fun _ => rfl) (fun w' => by go_simp) ?_
   go_simp
   refine wpQIn_val (.pointer (some ⟨G, p, none⟩)) rfl (fun _ => rfl) (fun w' => by go_simp; intro h; omega) ?_
   go_simp
   refine wpQIn_load F_int wU hcA ?_
   go_simp
   refine wpQIn_val (.slice (some ⟨G, 0, none⟩) n gcap) rfl (fun _ => rfl) (fun w' => by go_simp) ?_
   go_simp
   refine wpQIn_val (.int .i64 p) rfl (fun _ => rfl) (fun w' => by go_simp) ?_
   go_simp
   refine wpQIn_val (.int .i64 ((p : Int) + 1)) rfl (fun _ => rfl) (fun w' => by go_simp) ?_
   go_simp
   refine wpQIn_val (.pointer (some ⟨G, p + 1, none⟩)) rfl (fun _ => rfl) (fun w' => by go_simp; intro h; have := h (by omega); omega) ?_
   go_simp
   refine wpQIn_load F_int wU hcC ?_
   go_simp
   refine wpQIn_val (.agg #[.int .i64 A0, .int .i64 A1]) rfl (fun _ => rfl) (fun w' => by go_simp) ?_
   go_simp
   refine wpQuietIn_nil ?_
   intro kd
   obtain ⟨w4, hw4e⟩ : ∃ w4, w4 = wr.drewN kd := ⟨_, rfl⟩
   rw [← hw4e]
   have hw4 : ∃ n, w4 = wr.drewN n := ⟨kd, hw4e⟩
   clear hw4e
   have b4 := below_drewN hw4
   have g4 := grown_of_below b4
   have hcA4 := (b4.cell (p := ⟨G, p, none⟩) (World.block_lt_of_cell? _ _ hcA)).trans hcA
   have hcC4 := (b4.cell (p := ⟨G, p + 1, none⟩) (World.block_lt_of_cell? _ _ hcC)).trans hcC
   have k4 : KeepNew (crK bn bw (some ⟨b, o, none⟩) ws.length) B wr w4 := KeepNew.grown g4 (by simp)
   have hS4 := hSr.keepNew k4
   have hcw4 := (b4.cell (p := ⟨bw, 0, none⟩) (World.block_lt_of_cell? _ _ hcw)).trans hcw
   have hI4 := hIr.below b4
   obtain ⟨fn, tmps, assign, body, hy, hRI⟩ := HY.out pre ⟨_, HOK.out⟩ w4 (HJ.out _ _ _ none hJs g4 (by simp)) hS4.z (by have := HLN.out; omega)
   unfold crV at hy
   dsimp only at hy
   have hb4 : b < w4.heap.size := Nat.lt_of_lt_of_le (World.block_lt_of_cell? _ _ hcx) b4.size
   clear hw4 b4 g4 hJs hSr hcA hcC hcw hIr k4 hfA hfC
   gi_wp2
   refine hRI.mono ?_
   rintro e W3 ⟨rfl, hJ3, hk3⟩
   have hS3 := hS4.keepNew hk3
   have hcw3 : W3.cell? ⟨bw, 0, none⟩ = some (.slice (some ⟨b, o, none⟩) ws.length cap) := by
    have := hk3.same bw (.inr (.inr (.inl rfl))) (World.block_lt_of_cell? _ _ hcw4)
    simpa [World.cell?, this] using hcw4
   have hI3 : Ints W3 (some ⟨b, o, none⟩) cap ws := hI4.keep (fun b' e => by cases e; exact hk3.same _ (.inr (.inr (.inr ⟨by omega, _, rfl, rfl⟩))) hb4)
   have hGB : B ≤ G := ((hS3.own 0 rfl).lt G rfl).1
   clear hS4 hcw4 hI4 hk3 hRI hy hcA4 hcC4 hb4
   have hRl := HL5.out
   gi_wp2
   refine wpIn_wide.2 ?_
   have hSU := hS3.drew
   obtain ⟨U, hU⟩ : ∃ U, U = W3.drew := ⟨_, rfl⟩
   rw [← hU] at hSU
   obtain ⟨G1, hG1, -, hcA, hfA, hS5⟩ := hSU.setOwn cInt1 0 rfl (p : Int) (by omega) (by omega) (atD 0 R ((p : Int) + 1))
   cases hG1
   obtain ⟨G1, hG1, -, hcB, hfB, hS6⟩ := hS5.setOwn cInt1 0 rfl ((p : Int) + 1) (by omega) (by simp; omega) (atD 0 R (p : Int))
   cases hG1
   obtain ⟨G1, hG1, -, hcC, hfC, -⟩ := hSU.setOwn cInt1 0 rfl ((p : Int) + 1) (by omega) (by omega) 0
   cases hG1
   have eP : (p : Int).toNat = p := by simp
   have eP1 : ((p : Int) + 1).toNat = p + 1 := by omega
   have vA : R[p]?.map cInt = some (.int .i64 (atD 0 R (p : Int))) := by
    have : p < R.length := by omega
    simp [atD, this, cInt]
   have vB : R[p + 1]?.map cInt = some (.int .i64 (atD 0 R ((p : Int) + 1))) := by
    have : p + 1 < R.length := by omega
    simp [atD, eP1, this, cInt]
   simp only [eP, eP1] at hcA hfA hcB hfB hcC hfC hS5 hS6
   rw [vA] at hcA
   rw [vB] at hcC
   have hcB2 : (R.set p (atD 0 R ((p : Int) + 1)))[p + 1]?.map cInt = some (.int .i64 (atD 0 R ((p : Int) + 1))) := by
    rw [List.getElem?_set_ne (by omega)]; exact vB
   rw [hcB2] at hcB
   have hsw : (R.set p (atD 0 R ((p : Int) + 1))).set (p + 1) (atD 0 R (p : Int)) = swapL R ((p : Int) + 1) := by
    unfold swapL
    rw [show (p : Int) + 1 - 1 = p by omega, eP1, eP]
   rw [hsw] at hS6
   rw [← HA0.out] at hcA hS6
   rw [← HA1.out] at hcC hcB hfB hS5 hS6
   simp only [cInt, List.set_cons_zero] at hcB hfB hS5 hS6
   obtain ⟨hkA, hkB, hkC, hkD, hkE, hkF⟩ := pkBc p n hp1
   have hw1 := wrapQ1c p hp9
   have hw2 := wrapP1c p hp9
   have hUb := hSU.b
   clear hcB2 vA vB hsw eP eP1
   go_wp2_with fail
   refine wp_regionK (C := (fun V' => Below B W3 V')) [0, 1, 2, 3, 4, 5, 6, 7, 8, 10, 11, 12] [_, _, _, _, _, _, _, _, _, _, _, _] 6 (by simp only [List.map_cons, List.map_nil, List.getElem?_toArray]; rfl) rfl kR kR kR ((by rw [hU] at hUb; exact hUb)) ?_
   refine ⟨_, yieldsK_val wU (fun w' => by with_unfolding_all exact rfl), ?_⟩
   go_frame
   refine ⟨_, yieldsK_val wU (fun w' => by with_unfolding_all exact rfl), ?_⟩
   go_frame
   refine ⟨_, yieldsK_val wU (fun w' => by with_unfolding_all exact rfl), ?_⟩
   go_frame
   refine ⟨_, yieldsK_val wU (fun w' => by with_unfolding_all exact rfl), ?_⟩
   go_frame
   refine ⟨.int .i64 ((p : Int) + 1), yieldsK_val wU (fun w' => by first | (go_simp; done) | (go_simp; rfl)), ?_⟩
   go_frame
   refine ⟨_, yieldsK_val wU (fun w' => by with_unfolding_all exact rfl), ?_⟩
   go_frame
   refine ⟨_, yieldsK_val wU (fun w' => by with_unfolding_all exact rfl), ?_⟩
   go_frame
   refine ⟨.int .i64 ((p : Int) + 1), yieldsK_val wU (fun w' => by first | (go_simp; done) | (go_simp; rfl)), ?_⟩
   go_frame
   refine ⟨.pointer (some ⟨G, p + 1, none⟩), yieldsK_val wU (fun w' => by first | (go_simp; done) | (go_simp; rfl)), ?_⟩
   go_frame
   refine ⟨_, yieldsK_val wU (fun w' => by with_unfolding_all exact rfl), ?_⟩
   go_frame
   refine ⟨_, yieldsK_val wU (fun w' => by with_unfolding_all exact rfl), ?_⟩
   go_frame
   refine ⟨.pointer (some ⟨G, p, none⟩), yieldsK_val wU (fun w' => by first | (go_simp; done) | (go_simp; rfl)), ?_⟩
   go_frame
   unfold wpPureK
   have hVd : ({ W3 with drawn := W3.drawn + 1 } : World) = W3.drew := rfl
   rw [hVd, ← hU]
   have hgU : W3.grownBy U (some G) := by rw [hU]; have h := (Below.refl W3.heap.size W3).drew; exact ⟨h.os, h.tape, h.output, h.size, fun i hi _ => h.block i hi⟩
   clear hVd hU
   refine wpAnyC_on [9, 13] kR (by simp) ?_
   simp only [List.forall_mem_cons, List.not_mem_nil, false_implies, implies_true, and_true]
   refine ⟨?_, ?_⟩
   ·refine wpOp_value (v := .int .i64 A1) (w' := U) (by rw [List.getElem?_toArray]; rfl) wU (by first | (go_simp; done) | (go_simp; rfl) | (simp [execOp, Act.eval, Result.andThen]; done)) ?_
    refine ⟨hSU.b, ?_⟩
    go_frame
    refine wpAnyC_on [13] kR (by simp) ?_
    simp only [List.forall_mem_cons, List.not_mem_nil, false_implies, implies_true, and_true]
    refine wpOp_value (v := .int .i64 A0) (w' := U) (by rw [List.getElem?_toArray]; rfl) wU (by first | (go_simp; done) | (go_simp; rfl) | (simp [execOp, Act.eval, Result.andThen]; done)) ?_
    refine ⟨hSU.b, ?_⟩
    go_frame
    refine wpAnyC_on [14] kR (by simp) ?_
    simp only [List.forall_mem_cons, List.not_mem_nil, false_implies, implies_true, and_true]
    refine wpOp_value (v := .pointer (some ⟨G, p, none⟩)) (w' := U) (by rw [List.getElem?_toArray]; rfl) wU (by first | (go_simp; done) | (go_simp; rfl) | (simp [execOp, Act.eval, Result.andThen]; done)) ?_
    refine ⟨hSU.b, ?_⟩
    go_frame
    refine wpAnyC_on [15] kR (by simp) ?_
    simp only [List.forall_mem_cons, List.not_mem_nil, false_implies, implies_true, and_true]
    refine wpOp_of_list (by rw [List.getElem?_toArray]; rfl) ?_
    refine wpList_stoIc (v := A1) wU wU hcA hfA ?_
    refine ⟨hS5.b, ?_⟩
    go_frame
    refine wpAnyC_on [16] kR (by simp) ?_
    simp only [List.forall_mem_cons, List.not_mem_nil, false_implies, implies_true, and_true]
    refine wpOp_value (v := .pointer (some ⟨G, p + 1, none⟩)) (w' := (U.setCell ⟨G, p, none⟩ (.int .i64 A1))) (by rw [List.getElem?_toArray]; rfl) wU (by first | (go_simp; done) | (go_simp; rfl) | (simp [execOp, Act.eval, Result.andThen]; done)) ?_
    refine ⟨hS5.b, ?_⟩
    go_frame
    refine wpAnyC_on [17] kR (by simp) ?_
    simp only [List.forall_mem_cons, List.not_mem_nil, false_implies, implies_true, and_true]
    refine wpOp_of_list (by rw [List.getElem?_toArray]; rfl) ?_
    refine wpList_stoIc (v := A0) wU wU hcB hfB ?_
    refine ⟨hS6.b, ?_⟩
    go_frame
    refine wpAnyC_rest [] [] rfl rfl kR kR kR hS6.b ?_
    unfold wpPure
    refine of_wpList_nil (P := Tryz.prog) (ops := #[]) ?_
    obtain ⟨U2, hU2⟩ : ∃ U2, U2 = (U.setCell ⟨G, p, none⟩ (.int .i64 A1)).setCell ⟨G, p + 1, none⟩ (.int .i64 A0) := ⟨_, rfl⟩
    have hg2 : W3.grownBy U2 (some G) := by rw [hU2]; exact (hgU.trans (grown_setG _ _ _ _)).trans (grown_setG _ _ _ _)
    rw [← hU2] at hS6 ⊢
    clear hU2 hS5 hcA hcB hcC hfA hfB hfC hkA hkB hkC hkD hkE hkF hw1
    have bX := hS6.b
    have hcw5 := (bX.cell (p := ⟨bw, 0, none⟩) hbwB).trans hcw3
    have hI5 : Ints U2 (some ⟨b, o, none⟩) cap ws := hI3.keep (fun b' e => by cases e; exact bX.block b (hbB _ rfl (by omega)))
    have hS7 := hS6.keepNew (KeepNew.refl (crK bn bw (some ⟨b, o, none⟩) ws.length) _ _)
    have hJ5 := HJ.out _ _ _ (some G) hJ3 hg2 (by rintro r e; cases e; exact hGB)
    clear bX hS6 hcw3 hI3 hJ3 hg2
    go_wp2_with fail
    gi_wp2
    go_roundw
    case rel => exact ⟨j + 1, pre ++ [⟨_, HOK.out⟩], by omega, by go_num, by rw [HNX.out, List.map_append, HPRE.out, ← HA0.out, ← HA1.out]; rfl, hJ5, by rw [HRX.out]; exact hS7, hcw5, hI5⟩
    case measure => simp [intOf]; omega
   ·refine wpOp_value (v := .int .i64 A0) (w' := U) (by rw [List.getElem?_toArray]; rfl) wU (by first | (go_simp; done) | (go_simp; rfl) | (simp [execOp, Act.eval, Result.andThen]; done)) ?_
    refine ⟨hSU.b, ?_⟩
    go_frame
    refine wpAnyC_on [9] kR (by simp) ?_
    simp only [List.forall_mem_cons, List.not_mem_nil, false_implies, implies_true, and_true]
    refine wpOp_value (v := .int .i64 A1) (w' := U) (by rw [List.getElem?_toArray]; rfl) wU (by first | (go_simp; done) | (go_simp; rfl) | (simp [execOp, Act.eval, Result.andThen]; done)) ?_
    refine ⟨hSU.b, ?_⟩
    go_frame
    refine wpAnyC_on [14] kR (by simp) ?_
    simp only [List.forall_mem_cons, List.not_mem_nil, false_implies, implies_true, and_true]
    refine wpOp_value (v := .pointer (some ⟨G, p, none⟩)) (w' := U) (by rw [List.getElem?_toArray]; rfl) wU (by first | (go_simp; done) | (go_simp; rfl) | (simp [execOp, Act.eval, Result.andThen]; done)) ?_
    refine ⟨hSU.b, ?_⟩
    go_frame
    refine wpAnyC_on [15] kR (by simp) ?_
    simp only [List.forall_mem_cons, List.not_mem_nil, false_implies, implies_true, and_true]
    refine wpOp_of_list (by rw [List.getElem?_toArray]; rfl) ?_
    refine wpList_stoIc (v := A1) wU wU hcA hfA ?_
    refine ⟨hS5.b, ?_⟩
    go_frame
    refine wpAnyC_on [16] kR (by simp) ?_
    simp only [List.forall_mem_cons, List.not_mem_nil, false_implies, implies_true, and_true]
    refine wpOp_value (v := .pointer (some ⟨G, p + 1, none⟩)) (w' := (U.setCell ⟨G, p, none⟩ (.int .i64 A1))) (by rw [List.getElem?_toArray]; rfl) wU (by first | (go_simp; done) | (go_simp; rfl) | (simp [execOp, Act.eval, Result.andThen]; done)) ?_
    refine ⟨hS5.b, ?_⟩
    go_frame
    refine wpAnyC_on [17] kR (by simp) ?_
    simp only [List.forall_mem_cons, List.not_mem_nil, false_implies, implies_true, and_true]
    refine wpOp_of_list (by rw [List.getElem?_toArray]; rfl) ?_
    refine wpList_stoIc (v := A0) wU wU hcB hfB ?_
    refine ⟨hS6.b, ?_⟩
    go_frame
    refine wpAnyC_rest [] [] rfl rfl kR kR kR hS6.b ?_
    unfold wpPure
    refine of_wpList_nil (P := Tryz.prog) (ops := #[]) ?_
    obtain ⟨U2, hU2⟩ : ∃ U2, U2 = (U.setCell ⟨G, p, none⟩ (.int .i64 A1)).setCell ⟨G, p + 1, none⟩ (.int .i64 A0) := ⟨_, rfl⟩
    have hg2 : W3.grownBy U2 (some G) := by rw [hU2]; exact (hgU.trans (grown_setG _ _ _ _)).trans (grown_setG _ _ _ _)
    rw [← hU2] at hS6 ⊢
    clear hU2 hS5 hcA hcB hcC hfA hfB hfC hkA hkB hkC hkD hkE hkF hw1
    have bX := hS6.b
    have hcw5 := (bX.cell (p := ⟨bw, 0, none⟩) hbwB).trans hcw3
    have hI5 : Ints U2 (some ⟨b, o, none⟩) cap ws := hI3.keep (fun b' e => by cases e; exact bX.block b (hbB _ rfl (by omega)))
    have hS7 := hS6.keepNew (KeepNew.refl (crK bn bw (some ⟨b, o, none⟩) ws.length) _ _)
    have hJ5 := HJ.out _ _ _ (some G) hJ3 hg2 (by rintro r e; cases e; exact hGB)
    clear bX hS6 hcw3 hI3 hJ3 hg2
    go_wp2_with fail
    gi_wp2
    go_roundw
    case rel => exact ⟨j + 1, pre ++ [⟨_, HOK.out⟩], by omega, by go_num, by rw [HNX.out, List.map_append, HPRE.out, ← HA0.out, ← HA1.out]; rfl, hJ5, by rw [HRX.out]; exact hS7, hcw5, hI5⟩
    case measure => simp [intOf]; omega
  ·-- END
   have hjj : j = ws.length := by omega
   have hys : pre.map (·.1) = csB (idL n) ws := by rw [hpre, hjj, List.take_length]
   have HYS := hid hys
   clear hpre hys
   gi_wp2
   go_end0
   exact ⟨⟨_, rfl⟩, pre, HYS.out, hJs⟩
/-- the iterator, as the law of ranges over such iterators wants it. -/
theorem crossings_cells (mm bn bw cap : Nat) (ad : Option Addr) (n : Nat) (ws : List Int) (hn : n ≤ 1000) (hl : ws.length ≤ 1048576) (hf : ∀ x ∈ ws, 1 ≤ absI x ∧ absI x < (n : Int)) (hm : 1 ≤ mm) (w : World)
  (hWn : w.cell? ⟨bn, 0, none⟩ = some (.int .i64 n)) (hWw : w.cell? ⟨bw, 0, none⟩ = some (.slice ad ws.length cap)) (hS : Ints w ad cap ws) :
  SeqCells Fence.wide mm Tryz.prog 160 #[.pointer (some ⟨bn, 0, none⟩), .pointer (some ⟨bw, 0, none⟩)] (crV (n := n)) (fun ys => ys.map (·.1) = csB (idL n) ws) ws.length (crK bn bw ad ws.length) w := fun l J W hW hJ hY h0 =>
 crossings1_in mm l bn bw cap ad n ws hn hl hf hm J W hJ hY ((hW.cell (p := ⟨bn, 0, none⟩) (World.block_lt_of_cell? w _ hWn)).trans hWn) ((hW.cell (p := ⟨bw, 0, none⟩) (World.block_lt_of_cell? w _ hWw)).trans hWw) (hS.below hW) h0
theorem crossings_any5 (a : Option Addr) (m cap : Nat) (n : Int) (w : World) :
  Calls Tryz.prog 112 #[.int .i64 n, .slice a m cap] w fun r w' =>
   r = .returned (.func (.func 160) #[] #[.pointer (some ⟨w.heap.size, 0, none⟩), .pointer (some ⟨w.heap.size + 1, 0, none⟩)]) ∧ w' = (w.alloc (.cells #[.int .i64 n] 3)).alloc (.cells #[.slice a m cap] 22) := by
 go_enter Tryz.func112, Tryz.ntmps112
 go_wp2
 go_ret
 exact ⟨rfl, rfl⟩
end Go.Proofs.YtngpopalpofhgaaGreatDoor

namespace Go.Proofs.YtngpopalpofhgaaGreatDoor
open Go.RowKit
set_option maxRecDepth 100000
section
variable {P : Program} {n r : Nat}
def Oper.noDefer (o : Oper) : Bool := match o.op with | .defer _ => false | _ => true
theorem noDefer_ne {o : Oper} (h : Oper.noDefer o = true) : ∀ c, o.op ≠ .defer c := fun c hc => by
 unfold Oper.noDefer at h
 rw [hc] at h
 cases h
theorem callsR {f : FuncId} {args : Array Value} {w : World} {R : Ending → World → Prop} (h : Calls P f args w R) : CallsIn (Fence.wide.inRound r) n P f args w R := (callsIn_wide (n := n)).2 h
theorem rowsR {row : String} {args : Array Value} {w : World} {R : Value → World → Prop} (h : Rows P row args w R) : RowsIn (Fence.wide.inRound r) n P row args w R := fun c cs _ =>
 let ⟨v, w', r, s⟩ := h c cs; ⟨v, w', r, stepsIn_wide.2 s⟩
theorem oper_wpR {o : Oper} {a : Act} {w : World} {K : Act → World → Prop} {Q Q' : Exit → Act → World → Prop} (hnd : ∀ c, o.op ≠ .defer c) (hQ : ∀ c a w, Q (.panic c) a w → Q' (.panic c) a w) (hL : LetsOut Q → LetsOut Q')
  (h : o.wp P a w K Q) : o.wpIn (Fence.wide.inRound r) n P a w K Q' := by
 refine ⟨fun _ _ => trivial, ?_⟩
 unfold Oper.wp at h
 rw [Oper.semAt_plain _ _ _ hnd]
 generalize (execOp a.eval o).run P w = res at h ⊢
 cases res with
 | ok x w' =>
  cases x with
  | value v => exact h
  | skip => exact h
  | defer d => exact h
  | enter f args =>
   refine ⟨fun h => (by simp [Fence.wide] at h), callsR (Calls.mono h fun e w'' he => ?_)⟩
   cases e with
   | returned v => exact he
   | panicked c => exact hQ _ _ _ he
   | outgrown => exact hL he
  | row row args => exact ⟨fun h => (by simp [Fence.wide] at h), rowsR h⟩
  | _ => exact absurd h (by simp [Oper.upon])
 | halt x w' =>
  cases x with
  | panic v => exact hQ _ _ _ h
  | _ => exact absurd h (by simp [Oper.upon])
theorem wpListR {ops : Array Oper} {Q Q' : Exit → Act → World → Prop} (hQ : ∀ e a w, Q e a w → Q' e a w) (hL : ¬ LetsOut Q) :
  ∀ (l : List Oper) (a : Act) (w : World), l.all Oper.noDefer = true → wpList P ops Q l a w → wpListIn (Fence.wide.inRound r) n P ops Q' l a w
 | [], a, w, _, h => hQ _ _ _ h
 | o :: l, a, w, hn, h => by
   rw [List.all_cons, Bool.and_eq_true] at hn
   unfold wpList at h
   unfold wpListIn
   split at h
   · rename_i hw
     rw [if_pos hw]
     rcases h with h | h
     · have h2 : o.wp P a w (wpListIn (Fence.wide.inRound r) n P ops Q' l) Q := by
         unfold Oper.wp at h ⊢
         generalize (execOp a.eval o).run P w = res at h ⊢
         have ih := wpListR (ops := ops) hQ hL l
         cases res with
         | ok x w' =>
           cases x with
           | value v => exact ih _ _ hn.2 h
           | skip => exact ih _ _ hn.2 h
           | defer d => exact ih _ _ hn.2 h
           | enter f args =>
             refine Calls.mono h fun e w'' he => ?_
             cases e with
             | returned v => exact ih _ _ hn.2 he
             | panicked c => exact he
             | outgrown => exact he
           | row row args => exact Rows.mono h fun v w'' he => ih _ _ hn.2 he
           | _ => exact absurd h (by simp [Oper.upon])
         | halt x w' =>
           cases x with
           | panic v => exact h
           | _ => exact absurd h (by simp [Oper.upon])
       exact oper_wpR (noDefer_ne hn.1) (fun c a w => hQ _ _ _) (fun ⟨a, w, q⟩ => ⟨a, w, hQ _ _ _ q⟩) h2
     · exact absurd h.2 hL
   · rename_i hw
     rw [if_neg hw]
     exact ⟨fun _ _ => trivial, wpListR hQ hL l _ _ hn.2 h⟩
theorem noOut {Q : Exit → Act → World → Prop} : ¬ LetsOut (fun e a w => e = .normal ∧ Q e a w) := fun h => by
 obtain ⟨_, _, h, _⟩ := h
 cases h
/-- a region that has one order, within a round. -/
theorem wpIn_regionR {id : Nat} {l : List Oper} {Q : Exit → Act → World → Prop} {a : Act} {w : World} (hn : l.all Oper.noDefer = true)
  (h : wpList P l.toArray (fun e a w => e = .normal ∧ Q e a w) l a w) : (Code.region id l.toArray false).wpIn (Fence.wide.inRound r) n P Q a w :=
 wpIn_region_lit (wpListR (fun _ _ _ h => h.2) noOut l a w hn h)
end
section
variable {P : Program} {ops : Array Oper} {rest : List Oper} {a : Act} {Q : Exit → Act → World → Prop} {α : Type} {c : α → Value} {sz bytes B : Nat} {t e : TypeId} {z v : Value} {w0 w : World} {L : List Pc} {l : List α}
/-- a store into an owned list, with what it leaves as it is. -/
theorem wpList_storeLG {d1 : Tmp} {ty1 ty2 : TypeId} {p1 p2 : String} {s x y : Operand} {af1 af2 : Array Edge} {ad : Option Addr} {n cap : Nat} {k : Int} {u : α} (i : Nat)
   (E : ETy P t e z 1 bytes) (hc1 : ∀ x, (c x).cells = #[c x]) (hsto : ∀ (u : α) (w : World) (p : Addr), (w.cell? p).isSome = true → w.frozen? p = false → (Instr.storeAt e (.pointer (some p)) (c u)).run P w = .ok () (w.setCell p (c u)))
   (hs : a.eval s = .slice ad n cap) (hx : a.eval x = .int .i64 k) (hS : SL B w0 w L) (hi : L[i]? = some (pOwn c 1 e (.slice ad n cap) l)) (h0 : 0 ≤ k) (hk : k < l.length)
   (hd : ∀ p, (a.put (some d1) p).eval (.tmp d1) = p) (hy : ∀ p, (a.put (some d1) p).eval y = c u)
   (hK : ∀ p w', SL B w0 w' (L.set i (pOwn c 1 e (.slice ad n cap) (l.set k.toNat u))) → w.grownBy w' (Value.slice ad n cap).ownBlock → wpList P ops Q rest ((a.put (some d1) p).put none undef) w') :
   wpList P ops Q (⟨some d1, .indexAddr t s x, ty1, p1, af1, none⟩ :: ⟨none, .store e (.tmp d1) y, ty2, p2, af2, none⟩ :: rest) a w := by
 obtain ⟨a', cap', e1, _⟩ := hS.slice i hi
 simp only [Value.slice.injEq] at e1
 obtain ⟨rfl, rfl, rfl⟩ := e1
 obtain ⟨b, ⟨h2, h3⟩, h4, h5⟩ := hS.upd i hi
 refine wpList_store (l := l) (B := 0) u E hc1 (hsto u) hs hx h2 h0 hk hd hy (fun p w' ho hg => hK p w' (h5 w' _ b (h3 ▸ hg) ⟨ho, h3⟩ (.inl rfl)) hg)
end
end Go.Proofs.YtngpopalpofhgaaGreatDoor

namespace Go.Proofs.YtngpopalpofhgaaGreatDoor
open Go.RowKit Go.Shelf
attribute [local go_sem] Oper.semAt_some
set_option maxHeartbeats 8000000
set_option maxRecDepth 100000
/-- pieces that lie ahead of C bear whatever grows or turns from C on. -/
theorem SL.ahead {B C : Nat} {w0 w w' : World} {L : List Pc} {row : Option Nat} (h : SL B w0 w L) (hg : w.grownBy w' row) (hr : ∀ r, row = some r → C ≤ r) (hC : B ≤ C) (hlt : ∀ p ∈ L, ∀ W b, p.P W (some b) → b < C) : SL B w0 w' L := by
 obtain ⟨hb, hz, f, h1, h2⟩ := h
 refine ⟨hb.grown hg hz (fun k e => Nat.le_trans hC (hr k e)), Nat.le_trans hz hg.size, f, fun i p hi => ⟨p.loc _ _ _ _ (h1 i p hi).1 hg (fun k hk e => ?_), (h1 i p hi).2⟩, h2⟩
 have h3 := hlt p (List.mem_of_getElem? hi) w k (hk ▸ (h1 i p hi).1)
 have h4 := hr k e
 omega
/-- what braid.perm holds while it ranges. -/
def bprI (w : World) (Pb G n gcap : Nat) (L : List Int) (W : World) : Prop :=
 SL w.heap.size w W [pBlk Pb (.cells #[.slice (some ⟨G, 0, none⟩) n gcap] 22), pOwn cInt 1 3 (.slice (some ⟨G, 0, none⟩) n gcap) L]
theorem bprI_ahead {w : World} {Pb G n gcap C : Nat} (hC : w.heap.size ≤ C) (hP : Pb < C) (hG : G < C) (f : List (CrS n) → List Int) : AheadOf C (fun pre W => bprI w Pb G n gcap (f pre) W) := fun s A W row h hg hr =>
 SL.ahead h hg hr hC (by
  intro p hp W b hb
  simp only [List.mem_cons, List.not_mem_nil, or_false] at hp
  rcases hp with rfl | rfl
  ·obtain ⟨h1, h2⟩ := hb; cases h1; exact hP
  ·obtain ⟨h1, h2⟩ := hb; cases h2; exact hG)
/-- the row of a permutation while the crossings are ranged. -/
def bprF (n : Nat) (pre : List (CrS n)) : List Int := pre.foldl (fun p c => incP p c.1.2.1 c.1.2.2) (idL n)
theorem bprF_snoc {n : Nat} (pre : List (CrS n)) (x : CrS n) : bprF n (pre ++ [x]) = incP (bprF n pre) x.1.2.1 x.1.2.2 := by simp [bprF]
theorem bprF_len {n : Nat} : ∀ (pre : List (CrS n)), (bprF n pre).length = n := by
 have : ∀ (pre : List (CrS n)) (p : List Int), (pre.foldl (fun p c => incP p c.1.2.1 c.1.2.2) p).length = p.length := by
  intro pre
  induction pre with
  | nil => intro p; rfl
  | cons x r ih => intro p; rw [List.foldl_cons, ih, incP_len]
 intro pre
 rw [bprF, this, idL_len]
theorem atD_set_or (p : List Int) (i : Nat) (v : Int) (j : Int) : atD 0 (p.set i v) j = v ∨ atD 0 (p.set i v) j = atD 0 p j := by
 unfold atD
 rw [List.getD_eq_getElem?_getD, List.getD_eq_getElem?_getD, List.getElem?_set]
 split
 ·split
  ·left; rfl
  ·right; rename_i h1 h2; rw [List.getElem?_eq_none (by omega)]
 ·right; rfl
theorem bprF_bd {n : Nat} (pre : List (CrS n)) : ∀ j : Int, -(n : Int) - 2 * pre.length ≤ atD 0 (bprF n pre) j ∧ atD 0 (bprF n pre) j ≤ n + 2 * pre.length := by
 have key : ∀ (pre : List (CrS n)) (p : List Int) (B : Int), 0 ≤ B → (∀ j : Int, -B ≤ atD 0 p j ∧ atD 0 p j ≤ B) → ∀ j : Int, -B - 2 * pre.length ≤ atD 0 (pre.foldl (fun p c => incP p c.1.2.1 c.1.2.2) p) j ∧ atD 0 (pre.foldl (fun p c => incP p c.1.2.1 c.1.2.2) p) j ≤ B + 2 * pre.length := by
  intro pre
  induction pre with
  | nil => intro p B _ h j; have := h j; simp; omega
  | cons x r ih =>
   intro p B hB h j
   have := ih (incP p x.1.2.1 x.1.2.2) (B + 2) (by omega) (fun j => by
    unfold incP
    have a := h x.1.2.1
    have b := h x.1.2.2
    have c := h j
    rcases atD_set_or p x.1.2.1.toNat (atD 0 p x.1.2.1 + 1) j with e | e <;> rcases atD_set_or p x.1.2.1.toNat (atD 0 p x.1.2.1 + 1) x.1.2.2 with e3 | e3 <;> rcases atD_set_or (p.set x.1.2.1.toNat (atD 0 p x.1.2.1 + 1)) x.1.2.2.toNat (atD 0 (p.set x.1.2.1.toNat (atD 0 p x.1.2.1 + 1)) x.1.2.2 - 1) j with e2 | e2 <;> rw [e2] <;> omega) j
   rw [List.foldl_cons, List.length_cons]
   omega
 intro j
 have := key pre (idL n) n (by omega) (fun j => by
  by_cases h : 0 ≤ j ∧ j < n
  ·rw [idL_at h.1 h.2]; omega
  ·unfold atD
   by_cases h0 : 0 ≤ j
   ·rw [List.getD_eq_getElem?_getD, List.getElem?_eq_none (by rw [idL_len]; omega)]; simp
   ·rw [List.getD_eq_getElem?_getD]
    have e : j.toNat = 0 := by omega
    rw [e]
    rcases n with _ | n
    ·simp [idL]
    ·simp [idL]; omega) j
 exact this
theorem bprF_end {n : Nat} {ws : List Int} (hf : ∀ x ∈ ws, 1 ≤ absI x ∧ absI x < (n : Int)) (ys : List (CrS n)) (h : ys.map (·.1) = csB (idL n) ws) : bprF n ys = permB n ws := by
 rw [← permB_fold hf, ← h, bprF, List.foldl_map]
theorem perm_any5 (ad : Option Addr) (cap n : Nat) (ws : List Int) (w : World) (hn : 1 ≤ n) (hn2 : n ≤ 1000) (hl : ws.length ≤ 1048576) (hf : ∀ x ∈ ws, 1 ≤ absI x ∧ absI x < (n : Int)) (hS : Ints w ad cap ws) :
  Calls Tryz.prog 64 #[.int .i64 n, .slice ad ws.length cap] w fun r w' => ∃ v, r = .returned v ∧ OwnI w.heap.size w' v (permB n ws) ∧ Below w.heap.size w w' := by
 refine callsIn_wide.1 (callsIn_of_wp_marks (n := 9) (F := Fence.wide) Tryz.func64 rfl trivial ?_ rfl)
 simp only [Tryz.ntmps64, List.size_toArray, List.length_cons, List.length_nil, Nat.reduceAdd, Nat.reduceSub, Array.replicate_succ, Array.replicate_zero, List.push_toArray, List.append_toArray, List.nil_append, List.cons_append]
 refine wpIn_wide.2 ?_
 go_wp2_with fail
 refine (bidentity_any n w hn2).mono ?_
 rintro e w2 ⟨v, rfl, ho, b2⟩
 have hS2 := SL.ofOwn ho b2
 obtain ⟨g, gcap, hv, -⟩ := hS2.slice 0 rfl
 subst hv
 rw [idL_len] at hS2
 obtain ⟨G, hG, -⟩ := hS2.setOwn cInt1 0 rfl 0 (by omega) (by rw [idL_len]; omega) 0
 subst hG
 have hR2 := hS.below b2
 have hS3 := hS2.box (.cells #[.slice (some ⟨G, 0, none⟩) n gcap] 22)
 have hGl := ((hS2.own 0 rfl).lt G rfl).2
 have hGlo := ((hS2.own 0 rfl).lt G rfl).1
 clear ho b2 hS2
 rw [idL_len]
 go_wp2_with fail
 refine (crossings_any5 ad ws.length cap n _).mono ?_
 rintro e w4 ⟨rfl, rfl⟩
 go_wp2_with fail
 obtain ⟨Pb, hPb⟩ : ∃ P, P = w2.heap.size := ⟨_, rfl⟩
 rw [← hPb] at hS3 hGl ⊢
 have hS4 := (hS3.al (.cells #[.int .i64 n] 3)).al (.cells #[.slice ad ws.length cap] 22)
 have cWn : (((w2.alloc (.cells #[.slice (some ⟨G, 0, none⟩) n gcap] 22)).alloc (.cells #[.int .i64 n] 3)).alloc (.cells #[.slice ad ws.length cap] 22)).cell? ⟨Pb + 1, 0, none⟩ = some (.int .i64 n) := by
  have h1 := World.alloc_heap_new (w2.alloc (.cells #[.slice (some ⟨G, 0, none⟩) n gcap] 22)) (.cells #[.int .i64 n] 3)
  have h2 := Below.heap_alloc ((w2.alloc (.cells #[.slice (some ⟨G, 0, none⟩) n gcap] 22)).alloc (.cells #[.int .i64 n] 3)) (.cells #[.slice ad ws.length cap] 22) (Pb + 1) (by simp [hPb])
  rw [World.size_alloc, ← hPb] at h1
  simp [World.cell?, h2, h1]
 have cWw : (((w2.alloc (.cells #[.slice (some ⟨G, 0, none⟩) n gcap] 22)).alloc (.cells #[.int .i64 n] 3)).alloc (.cells #[.slice ad ws.length cap] 22)).cell? ⟨Pb + 1 + 1, 0, none⟩ = some (.slice ad ws.length cap) := by
  have h1 := World.alloc_heap_new ((w2.alloc (.cells #[.slice (some ⟨G, 0, none⟩) n gcap] 22)).alloc (.cells #[.int .i64 n] 3)) (.cells #[.slice ad ws.length cap] 22)
  rw [World.size_alloc, World.size_alloc, ← hPb] at h1
  simp [World.cell?, h1]
 have hR4 := hS.below hS4.b
 have hz4 : (((w2.alloc (.cells #[.slice (some ⟨G, 0, none⟩) n gcap] 22)).alloc (.cells #[.int .i64 n] 3)).alloc (.cells #[.slice ad ws.length cap] 22)).heap.size = Pb + 3 := by simp [hPb]
 generalize (((w2.alloc (.cells #[.slice (some ⟨G, 0, none⟩) n gcap] 22)).alloc (.cells #[.int .i64 n] 3)).alloc (.cells #[.slice ad ws.length cap] 22)) = w4 at *
 have hK : ∀ k, crK (Pb + 1) (Pb + 1 + 1) ad ws.length k → k < w4.heap.size := by
  rintro k (rfl | rfl | ⟨h, b, rfl, rfl⟩)
  ·omega
  ·omega
  ·obtain ⟨b', o', hb', hcx⟩ := hR4.cells (by decide) 0 0 h
   have hcx := hcx 0 (.int .i64 (atD 0 ws 0)) rfl
   cases hb'
   exact World.block_lt_of_cell? _ _ hcx
 have hzw := hS4.z
 have hGK : ¬ crK (Pb + 1) (Pb + 1 + 1) ad ws.length G := by
  rintro (h | h | ⟨h, b, rfl, rfl⟩)
  ·omega
  ·omega
  ·obtain ⟨b', o', hb', hcx⟩ := hS.cells (by decide) 0 0 h
   have hcx := hcx 0 (.int .i64 (atD 0 ws 0)) rfl
   cases hb'
   have := World.block_lt_of_cell? _ _ hcx
   have hbk : b'  < w.heap.size := this
   exact absurd hbk (Nat.not_lt.2 hGlo)
 refine (wpIn_wide (n := 9)).1 ?_
 refine rangeFunc_cells rfl (by decide) (gf := 160) (lb := #[.pointer (some ⟨Pb + 1, 0, none⟩), .pointer (some ⟨Pb + 1 + 1, 0, none⟩)]) rfl trivial (enters_of Tryz.func160 kR rfl)
  (crossings_cells 8 (Pb + 1) (Pb + 1 + 1) cap ad n ws hn2 hl hf (by decide) w4 cWn cWw hR4) hK (Below.refl _ _) (fun _ => rfl)
  (fun pre W => bprI w Pb G n gcap (bprF n pre) W) (bprI_ahead hzw (by omega) (by omega) _) hS4 ?round ?done
 case round =>
  intro l pre x W hI hz hlen
  have hz4l : w4.heap.size ≤ Pb + 3 ∧ Pb + 3 ≤ w4.heap.size := ⟨by omega, by omega⟩
  clear hPb hz4
  obtain ⟨-, hxa, hxb, -⟩ := x.2
  have hbd := bprF_bd (n := n) pre
  have hFl := bprF_len (n := n) pre
  have hsn := bprF_snoc pre x
  obtain ⟨PF, hPF⟩ : ∃ PF, PF = bprF n (pre ++ [x]) := ⟨_, rfl⟩
  rw [← hPF] at hsn ⊢
  clear hPF
  have hpl : pre.length ≤ 1048576 := by omega
  generalize pre.length = pl at *
  generalize bprF n pre = p at *
  dsimp only [crV]
  generalize x.1.1 = xl at *
  generalize x.1.2.1 = xa at *
  generalize x.1.2.2 = xb at *
  clear x
  unfold bprI at hI
  gi_wp2
  refine ⟨KeepNew.grown (World.grownBy_alloc W _ none) (fun _ h => by cases h), hI.al _, ?_⟩
  intro W2 hg2 hI2
  unfold bprI at hI2
  have hbx : W2.heap[W.heap.size]? = some (.cells #[.int .i64 xa, .int .i64 xb] 67) := (hg2.block _ (by simp) (by simp; omega)).trans (heap_alloc_new W _)
  have c0 : W2.cell? ⟨W.heap.size, 0, none⟩ = some (.int .i64 xa) := by simp [World.cell?, hbx]
  have c1 : W2.cell? ⟨W.heap.size, 1, none⟩ = some (.int .i64 xb) := by simp [World.cell?, hbx]
  generalize hbxs : W.heap.size = bx at *
  have cP := hI2.cell 0 rfl 0 rfl
  have hRp := hI2.rd 1 rfl
  have hb1 := hbd xa
  have HW1 : Hid (IntKind.i64.wrap (atD 0 p xa + 1) = atD 0 p xa + 1) := hid (IntWalk.i64_in _ (by omega))
  obtain ⟨p1, hp1⟩ : ∃ p1, p1 = p.set xa.toNat (atD 0 p xa + 1) := ⟨_, rfl⟩
  have hb2 := hbd xb
  have hb3 := atD_set_or p xa.toNat (atD 0 p xa + 1) xb
  rw [← hp1] at hb3
  have HW2 : Hid (IntKind.i64.wrap (atD 0 p1 xb - 1) = atD 0 p1 xb - 1) := hid (IntWalk.i64_in _ (by omega))
  have HPF : Hid (PF = p1.set xb.toNat (atD 0 p1 xb - 1)) := hid (by rw [hsn, hp1]; rfl)
  have hp1l : p1.length = n := by rw [hp1, List.length_set, hFl]
  have HP1 := hid hp1
  obtain ⟨hxa0, hxa1⟩ := hxa
  obtain ⟨hxb0, hxb1⟩ := hxb
  have HFL := hid hFl
  have HP1L := hid hp1l
  have hxa2 : xa < (p.length : Int) := by omega
  have hxb2 : xb < (p1.length : Int) := by omega
  clear hb1 hb2 hb3 hbd hsn hp1 hI hpl hlen hFl hp1l
  have hw1 := HW1.out
  apply wpIn_block
  apply wpIn_seq_k
  intro K hK
  refine wpIn_regionR rfl ?_
  go_wp2_with (first | (with_reducible refine wpList_idxN _ 0 E_ints F_int cInt1 wU wU (hRp) (HFL.out) oD oD (fun _ => wU) (fun _ => ?_)) | ((with_reducible refine wpList_storeLG (u := (atD 0 p xa + 1)) 1 E_ints cInt1 (sto_int) wU wU (hI2) wU (by first | omega | (simp; done) | (simp; omega)) (by first | omega | (simp; done) | (simp; omega)) (fun _ => wU) (fun _ => wU) ?_); intro _ w7 hS7 hg7))
  clear hw1 cP hRp
  have hw2 := HW2.out
  rw [← HP1.out] at hS7
  have cP := hS7.cell 0 rfl 0 rfl
  have hRp := hS7.rd 1 rfl
  have g7 : W2.grownBy w7 (some G) := hg7
  have hbG : bx ≠ G := by omega
  have d0 := g7.cell c0 (fun e => hbG (Option.some.inj e))
  have d1 := g7.cell c1 (fun e => hbG (Option.some.inj e))
  clear hI2 hg7
  refine wpIn_regionR rfl ?_
  go_wp2_with (first | (with_reducible refine wpList_idxN _ 0 E_ints F_int cInt1 wU wU (hRp) (HP1L.out) oD oD (fun _ => wU) (fun _ => ?_)) | ((with_reducible refine wpList_storeLG (u := (atD 0 p1 xb - 1)) 1 E_ints cInt1 (sto_int) wU wU (hS7) wU (by first | omega | (simp; done) | (simp; omega)) (by first | omega | (simp; done) | (simp; omega)) (fun _ => wU) (fun _ => wU) ?_); intro _ w8 hS8 hg8))
  have g8 : w7.grownBy w8 (some G) := hg8
  exact ⟨(KeepNew.grown g7 (fun r e => by cases e; exact ⟨by omega, hGK⟩)).trans (KeepNew.grown g8 (fun r e => by cases e; exact ⟨by omega, hGK⟩)), by unfold bprI; rw [HPF.out]; exact hS8⟩
 case done =>
  intro D ys W hD hys hI hK
  have hfin := bprF_end hf ys hys
  unfold bprI at hI
  rw [hfin] at hI
  have hs := hI.addMark (C := w4.heap.size) (by
   intro q hq
   simp only [List.mem_cons, List.not_mem_nil, or_false] at hq
   rcases hq with rfl | rfl
   ·exact okT_cells
   ·exact okT_own) hzw hD hK
  have hc := hs.cell 1 rfl 0 rfl
  clear hI hfin hys hPb hz4
  dsimp only
  go_wp2_with fail
  refine SL.leave (L := [_, _]) (fun V hV => ⟨.slice (some ⟨G, 0, none⟩) n gcap, ?_, _, rfl, hV.own 1 rfl, hV.b⟩) [D] W hs
  simp [results, Tryz.f64, go_sem]
end Go.Proofs.YtngpopalpofhgaaGreatDoor

namespace Go.Proofs.YtngpopalpofhgaaGreatDoor
open Go.RowKit
set_option maxHeartbeats 1000000
set_option maxRecDepth 100000

open Go.Maps in
/-- the map counts the numbers of the list. -/
structure CntD (D : DataW Unit) (l : List Int) : Prop where
 map : IsMap D
 key : ∀ kl, has D kl = true ↔ ∃ x ∈ l, kl = .int .i64 x
 cnt : ∀ x ∈ l, ∀ z, D.atKey (.int .i64 x) z = .lit (.int .i64 (l.count x))
open Go.Maps in
theorem CntD.at0 {D : DataW Unit} {l : List Int} (h : CntD D l) (x : Int) : D.atKey (.int .i64 x) (.lit (.int .i64 0)) = .lit (.int .i64 (l.count x)) := by
 by_cases hx : x ∈ l
 ·exact h.cnt x hx _
 ·have hn : has D (.int .i64 x) = false := by
   cases e : has D (.int .i64 x)
   ·rfl
   ·obtain ⟨y, hy, e2⟩ := (h.key _).1 e
    cases e2; exact absurd hy hx
  rw [atKey_of_not_has hn, List.count_eq_zero.2 hx]; rfl
open Go.Maps in
theorem CntD.step {D : DataW Unit} {l : List Int} (h : CntD D l) {x : Int} (hk : WideAt.IsKeyLit (.int .i64 x)) : CntD (D.put (.int .i64 x) (.lit (.int .i64 ((l.count x : Int) + 1)))) (l ++ [x]) := by
 refine ⟨h.map.put _ _, fun kl => ?_, fun y hy z => ?_⟩
 ·by_cases e : kl = .int .i64 x
  ·subst e
   rw [has_put_same h.map hk]
   simp
  ·rw [has_put_other e, h.key]
   constructor
   ·rintro ⟨y, hy, rfl⟩; exact ⟨y, by simp [hy], rfl⟩
   ·rintro ⟨y, hy, rfl⟩
    rcases List.mem_append.1 hy with hy | hy
    ·exact ⟨y, hy, rfl⟩
    ·simp only [List.mem_singleton] at hy
     subst hy; exact absurd rfl e
 ·by_cases e : y = x
  ·subst e
   rw [atKey_put_same h.map hk]
   simp
  ·have hy2 : y ∈ l := by
    rcases List.mem_append.1 hy with hy | hy
    ·exact hy
    ·simp only [List.mem_singleton] at hy; exact absurd hy e
   rw [atKey_put_other (fun e2 => e (by cases e2; rfl)), h.cnt y hy2]
   have : ([x] : List Int).count y = 0 := List.count_eq_zero.2 (by simpa using e)
   rw [List.count_append, this, Nat.add_zero]
open Go.Maps in
theorem CntD.same {D E : DataW Unit} {l m : List Int} (h : CntD D l) (k : CntD E m) (cD : Canon D) (cE : Canon E) (hc : ∀ x, m.count x = l.count x) : D = E := by
 have hm : ∀ x, x ∈ l ↔ x ∈ m := fun x => by rw [← List.count_pos_iff, ← List.count_pos_iff, hc]
 have hh : ∀ kl, has D kl = has E kl := fun kl => by
  rw [Bool.eq_iff_iff, h.key, k.key]
  constructor
  ·rintro ⟨x, a, b⟩; exact ⟨x, (hm x).1 a, b⟩
  ·rintro ⟨x, a, b⟩; exact ⟨x, (hm x).2 a, b⟩
 refine ext cD cE hh (fun kl z hk => ?_)
 obtain ⟨x, hx, rfl⟩ := (h.key kl).1 hk
 rw [h.cnt x hx, k.cnt x ((hm x).1 hx), hc]
end Go.Proofs.YtngpopalpofhgaaGreatDoor

namespace Go.Proofs.YtngpopalpofhgaaGreatDoor
open Go.RowKit Go.Maps
set_option maxRecDepth 100000

def CntM (w : World) (b n : Nat) (l : List Int) : Prop := ∃ D : DataW Unit, w.ownsMap Tryz.prog 3 (plainElem Tryz.prog 3) b n D ∧ CntD D l
theorem CntM.kept {w w' : World} {b n : Nat} {l : List Int} {row : Option Nat} (h : CntM w b n l) (hg : w.grownBy w' row) (hne : some b ≠ row) : CntM w' b n l := by
 obtain ⟨D, h1, h2⟩ := h; exact ⟨D, h1.kept hg hne, h2⟩
theorem CntM.lt {w : World} {b n : Nat} {l : List Int} (h : CntM w b n l) : b < w.heap.size := by obtain ⟨D, h1, _⟩ := h; exact h1.lt
theorem CntM.look {w : World} {b n : Nat} {l : List Int} (h : CntM w b n l) {k : Int} (hk : InI k) : (Instr.lookup 88 (.map (some b)) (.int .i64 k) false).run Tryz.prog w = .ok (.int .i64 (l.count k)) w := by
 obtain ⟨D, h1, h2⟩ := h
 obtain ⟨x, hrun, hat, _⟩ := h1.lookup_int keyI Tryz.underlying88 Tryz.underlying3 (zeroI w) (keyOfI hk)
 rw [h2.at0 k] at hat
 simp only [DataW.lit.injEq, Lit.int.injEq, true_and] at hat
 rw [hrun, hat]
theorem CntM.put {w : World} {b n : Nat} {l : List Int} (h : CntM w b n l) {k : Int} (hk : InI k) (hl : l.length ≤ 1048576) (hn : n < maxLen) :
   ∃ w', (Instr.mapUpdate 88 (.map (some b)) (.int .i64 k) (.int .i64 ((l.count k : Int) + 1))).run Tryz.prog w = .ok () w' ∧ CntM w' b (n + 1) (l ++ [k]) ∧ w.grownBy w' (some b) := by
 obtain ⟨D, h1, h2⟩ := h
 have hc : l.count k ≤ l.length := List.count_le_length
 have hv : InI ((l.count k : Int) + 1) := by unfold InI; omega
 obtain ⟨w', hrun, ho, hg⟩ := h1.update keyI Tryz.underlying88 hn (keyOfI hk) (plainElem_int Tryz.underlying3 hv.wf)
 exact ⟨w', hrun, ⟨_, ho, h2.step (keyI.key (keyOfI hk))⟩, hg⟩
theorem CntM.len {w : World} {b n : Nat} {l : List Int} (h : CntM w b n l) : ∃ z : Nat, (∀ ty, (Builtin.len_ #[88] ty #[.map (some b)]).run Tryz.prog w = .ok (.int .i64 z) w) ∧
  ∀ (b' n' : Nat) (m : List Int), CntM w b' n' m → (∀ x, m.count x = l.count x) → ∀ ty, (Builtin.len_ #[88] ty #[.map (some b')]).run Tryz.prog w = .ok (.int .i64 z) w := by
 obtain ⟨D, h1, h2⟩ := h
 refine ⟨Maps.size D, fun ty => h1.len Tryz.underlying88 ty, fun b' n' m hm hc ty => ?_⟩
 obtain ⟨E, g1, g2⟩ := hm
 have e := h2.same g2 (h1.canon keyI) (g1.canon keyI) hc
 rw [e]
 exact g1.len Tryz.underlying88 ty
def pCnt (k n : Nat) (l : List Int) : Pc where
 P w b := b = some k ∧ CntM w k n l
 lt w j h := by obtain ⟨h1, h2⟩ := h; cases h1; exact h2.lt
 loc w w' row b h hg hne := ⟨h.1, h.2.kept hg (fun e => hne k h.1 e.symm)⟩
theorem SL.cnt {B : Nat} {w0 w : World} {L : List Pc} {k n : Nat} {l : List Int} (h : SL B w0 w L) (i : Nat) (hi : L[i]? = some (pCnt k n l)) : CntM w k n l := by
 obtain ⟨b, ⟨_, h1⟩, _⟩ := h.upd i hi
 exact h1
section
variable {ops : Array Oper} {rest : List Oper} {a : Act} {Q : Exit → Act → World → Prop} {d : Option Tmp} {ty : TypeId} {p : String} {m x y : Operand} {af : Array Edge} {g : Option (Nat × Bool)} {b n B : Nat} {k : Int} {w0 w : World} {L : List Pc} {l : List Int}
end
section
variable {P : Program} {ops : Array Oper} {rest : List Oper} {a : Act} {α : Type} {c : α → Value} {sz bytes : Nat} {t e t2 e2 : TypeId} {z : Value} {ad : Option Addr} {cap n : Nat} {l : List α} {k : Int} {w : World}
 {d1 d2 d3 : Tmp} {ty1 ty2 ty3 : TypeId} {p1 p2 p3 : String} {s x : Operand} {af1 af2 af3 : Array Edge} {j : Nat} {g1 g2 g3 : Option (Nat × Bool)}
end
section
variable {P : Program} {ops : Array Oper} {a : Act} {ty : TypeId} {p : String} {af : Array Edge} {g : Option (Nat × Bool)} {d : Tmp} {C : World → Prop}
end
end Go.Proofs.YtngpopalpofhgaaGreatDoor

namespace Go.Proofs.YtngpopalpofhgaaGreatDoor
open Go.RowKit
set_option maxHeartbeats 1000000
set_option maxRecDepth 100000
section
variable {P : Program} {ops : Array Oper} {rest : List Oper} {a : Act} {Qa : Act → Prop} {α : Type} {c : α → Value} {sz bytes : Nat} {t e : TypeId} {z : Value} {ad : Option Addr} {cap : Nat} {l : List α} {k : Int} {w : World}
 {d1 d2 : Tmp} {ty1 ty2 : TypeId} {p1 p2 : String} {s x : Operand} {af1 af2 : Array Edge}
end
/-- the handles H lead to the lists l. -/
def LeadsTo (w : World) (H : List SlH) (l : List (List Int)) : Prop := ∀ k : Nat, k < l.length → ∃ xa xc, atD ((none, 0, 0) : SlH) H k = (xa, (atD [] l k).length, xc) ∧ Ints w xa xc (atD [] l k) ∧ (atD [] l k).length ≤ 1048576
theorem LeadsTo.below {w w' : World} {H : List SlH} {l : List (List Int)} (h : LeadsTo w H l) (hb : Below w.heap.size w w') : LeadsTo w' H l := fun k hk => by
 obtain ⟨xa, xc, h1, h2, h3⟩ := h k hk
 exact ⟨xa, xc, h1, h2.below hb, h3⟩
end Go.Proofs.YtngpopalpofhgaaGreatDoor

namespace Go.Proofs.YtngpopalpofhgaaGreatDoor
open Go.RowKit
set_option maxHeartbeats 1000000
set_option maxRecDepth 100000

theorem reps_of_own {α : Type} {c : α → Value} {sz B : Nat} {e : TypeId} {w : World} {a : Option Addr} {n cap : Nat} {l : List α} (h : Own c sz B e w (.slice a n cap) l) (hn : n = l.length) : Reps c sz w a cap l := by
 subst hn
 obtain ⟨a', cap', e1, hr, _⟩ := h.reps
 cases e1
 exact hr

end Go.Proofs.YtngpopalpofhgaaGreatDoor

namespace Go.Proofs.YtngpopalpofhgaaGreatDoor
open Go.RowKit
set_option maxHeartbeats 1000000
set_option maxRecDepth 100000

end Go.Proofs.YtngpopalpofhgaaGreatDoor

namespace Go.Proofs.YtngpopalpofhgaaGreatDoor
open Go.RowKit
set_option maxHeartbeats 1000000
set_option maxRecDepth 100000

def headE (x y : Int) : Int := if matE x y ≠ 0 then matE x y else if 12 < x ∨ 200 < (x - 1) * y then 5 else 0
def headA (k : Nat) : Int := ((k : Int) + 1) * (1 - 2 * ((k : Int) % 2))
def headK (k : Nat) : List Int := (List.range k).map headA
theorem headK_succ (k : Nat) : headK (k + 1) = headK k ++ [headA k] := by simp [headK, List.range_succ]
theorem headK_len (k : Nat) : (headK k).length = k := by simp [headK]
def headL (x y : Int) : List Int := if headE x y = 0 then cyc (headK (x - 1).toNat) ((x - 1).toNat * y.toNat) else []

theorem Head_any (x y : Int) (w : World) :
  Calls Tryz.prog 36 #[.int .i64 x, .int .i64 y] w fun r w' => RetLE w (headL x y) (headE x y) r w' := by
 have hck := fun w => checkMat_any x y w
 by_cases h : matE x y = 0
 ·obtain ⟨h1, h2, h3, h4⟩ := matE_zero h
  rw [h] at hck
  have HCK := hid hck; clear hck
  have hmul : 0 ≤ (x - 1) * y ∧ (x - 1) * y ≤ 10000 := ⟨Int.mul_nonneg (by omega) (by omega), by
   have := Int.mul_le_mul (show x - 1 ≤ 100 by omega) h4 (by omega) (by omega)
   omega⟩
  obtain ⟨hm1, hm2⟩ := hmul
  by_cases c1 : 12 < x
  ·have e1 : headE x y = 5 := by simp [headE, h, c1]
   have e2 : headL x y = [] := by rw [headL, e1]; rfl
   rw [e1, e2]
   clear e1 e2 h
   go_enter Tryz.func36, Tryz.ntmps36
   go_wp2_with (first | (go_at_call 85; refine (HCK.out _).mono ?_; rintro e w' ⟨rfl, rfl⟩) | (go_at_call 86; refine (when_any _ _ _).mono ?_; rintro e w' ⟨rfl, rfl⟩) | (go_at_call 84; refine (first_any _ _ [_, _] _ (reps_newN cIntS [_, _] 2 rfl (by decide) _ _ (by simp) rfl)).mono ?_; rintro e w' ⟨rfl, rfl⟩))
   go_ret2
   exact RetLE.none rfl (bal (Below.refl _ _) _)
  by_cases c2 : 200 < (x - 1) * y
  ·have e1 : headE x y = 5 := by simp [headE, h, c2]
   have e2 : headL x y = [] := by rw [headL, e1]; rfl
   rw [e1, e2]
   clear e1 e2 h
   go_enter Tryz.func36, Tryz.ntmps36
   go_wp2_with (first | (go_at_call 85; refine (HCK.out _).mono ?_; rintro e w' ⟨rfl, rfl⟩) | (go_at_call 86; refine (when_any _ _ _).mono ?_; rintro e w' ⟨rfl, rfl⟩) | (go_at_call 84; refine (first_any _ _ [_, _] _ (reps_newN cIntS [_, _] 2 rfl (by decide) _ _ (by simp) rfl)).mono ?_; rintro e w' ⟨rfl, rfl⟩))
   go_ret2
   exact RetLE.none rfl (bal (Below.refl _ _) _)
  ·have e1 : headE x y = 0 := by simp [headE, h, c1, c2]
   have e2 : headL x y = cyc (headK (x - 1).toNat) ((x - 1).toNat * y.toNat) := by rw [headL, e1]; rfl
   rw [e1, e2]
   clear e1 e2 h
   obtain ⟨m, hm⟩ : ∃ m : Nat, x = m + 1 := ⟨(x - 1).toNat, by omega⟩
   subst hm
   obtain ⟨c, rfl⟩ : ∃ c : Nat, y = c := ⟨y.toNat, by omega⟩
   have e0 : ((m : Int) + 1 - 1).toNat = m := by omega
   rw [e0]
   clear e0
   have e3 : (m : Int) + 1 - 1 = m := by omega
   rw [e3] at c2 hm1 hm2
   clear e3
   go_enter Tryz.func36, Tryz.ntmps36
   go_wp2_with (first | (go_at_call 85; refine (HCK.out _).mono ?_; rintro e w' ⟨rfl, rfl⟩) | (go_at_call 86; refine (when_any _ _ _).mono ?_; rintro e w' ⟨rfl, rfl⟩) | (go_at_call 84; refine (first_any _ _ [_, _] _ (reps_newN cIntS [_, _] 2 rfl (by decide) _ _ (by simp) rfl)).mono ?_; rintro e w' ⟨rfl, rfl⟩))
   go_loopw [7, 8, 29] (fun v _ i wr => ∃ k : Nat, k ≤ m ∧ i = .int .i64 k ∧ OwnI w.heap.size wr v (headK k) ∧ Below w.heap.size w wr) (fun _ _ i _ => m - (intOf i).toNat)
   case atStart => exact ⟨0, by omega, rfl, own_nil cIntS, bal (Below.refl _ _) _⟩
   case round =>
    obtain ⟨k, hk, rfl, hO, hbr⟩ := hrel
    have hle : (headK k).length ≤ 100 := by rw [headK_len]; omega
    have hbs := hbr.size
    by_cases hlt : k < m
    ·have hs := headK_succ k
     by_cases hp : (k : Int) % 2 = 0
     ·have hA : headA k = (k : Int) + 1 := by rw [headA, hp]; omega
      rw [hA] at hs
      have HS := hid hs; clear hs hA
      go_wp2_with (first | ((with_reducible refine wpList_app (l := (headK k)) (ys := [((k : Int) + 1)]) E_ints wU wU ((hO).alloc _) (reps_new1 cIntS (((k : Int) + 1)) _ _ (by simp) rfl) cIntO (by simp; omega) (by first | omega | (simp; omega)) (by simp; omega) ?_); intro v3 w3 ho3 hg3 hat3))
      refine ⟨⟨k + 1, by omega, by go_num, by rw [HS.out]; exact ho3, below_own (bal hbr (.cells #[.int .i64 ((k : Int) + 1)] 3)) hg3 (hO.alloc _) (Nat.le_refl _)⟩, by simp [intOf]; omega⟩
     ·have hp1 : (k : Int) % 2 = 1 := by omega
      have hA : headA k = -((k : Int) + 1) := by rw [headA, hp1]; omega
      rw [hA] at hs
      have HS := hid hs; clear hs hA hp
      go_wp2_with (first | ((with_reducible refine wpList_app (l := (headK k)) (ys := [(-((k : Int) + 1))]) E_ints wU wU ((hO).alloc _) (reps_new1 cIntS ((-((k : Int) + 1))) _ _ (by simp) rfl) cIntO (by simp; omega) (by first | omega | (simp; omega)) (by simp; omega) ?_); intro v3 w3 ho3 hg3 hat3))
      refine ⟨⟨k + 1, by omega, by go_num, by rw [HS.out]; exact ho3, below_own (bal hbr (.cells #[.int .i64 (-((k : Int) + 1))] 3)) hg3 (hO.alloc _) (Nat.le_refl _)⟩, by simp [intOf]; omega⟩
    ·have : k = m := by omega
     subst this
     rw [headK_len] at hle
     obtain ⟨ar, capr, rfl, hrr, _, _⟩ := hO.reps
     have hre := Repeat_any ar capr c (headK k) wr hrr (by rw [headK_len]; omega) (by rw [headK_len]; omega) (by omega) (by omega)
     rw [headK_len] at hre ⊢
     have HRE := hid hre; clear hre
     go_wp2_with fail
     refine HRE.out.mono ?_
     rintro e w5 ⟨v5, rfl, ho5, hb5⟩
     go_wp2_with fail
     go_ret2
     exact RetLE.own v5 rfl ho5 hbs (hbr.trans (hb5.mono hbs))
 ·have e1 : headE x y = matE x y := by simp [headE, h]
  have e3 : matE x y = 3 := by unfold matE at *; split at h <;> simp_all
  have e2 : headL x y = [] := by rw [headL, if_neg (by rw [e1]; exact h)]
  rw [e3] at hck
  rw [e1, e2, e3]
  have HCK := hid hck; clear hck h e1 e2 e3
  by_cases c1 : 12 < x
  ·go_enter Tryz.func36, Tryz.ntmps36
   go_wp2_with (first | (go_at_call 85; refine (HCK.out _).mono ?_; rintro e w' ⟨rfl, rfl⟩) | (go_at_call 86; refine (when_any _ _ _).mono ?_; rintro e w' ⟨rfl, rfl⟩) | (go_at_call 84; refine (first_any _ _ [_, _] _ (reps_newN cIntS [_, _] 2 rfl (by decide) _ _ (by simp) rfl)).mono ?_; rintro e w' ⟨rfl, rfl⟩))
   all_goals go_ret2
   all_goals exact RetLE.none rfl (bal (Below.refl _ _) _)
  ·go_enter Tryz.func36, Tryz.ntmps36
   go_wp2_with (first | (go_at_call 85; refine (HCK.out _).mono ?_; rintro e w' ⟨rfl, rfl⟩) | (go_at_call 86; refine (when_any _ _ _).mono ?_; rintro e w' ⟨rfl, rfl⟩) | (go_at_call 84; refine (first_any _ _ [_, _] _ (reps_newN cIntS [_, _] 2 rfl (by decide) _ _ (by simp) rfl)).mono ?_; rintro e w' ⟨rfl, rfl⟩))
   all_goals go_ret2
   all_goals exact RetLE.none rfl (bal (Below.refl _ _) _)
end Go.Proofs.YtngpopalpofhgaaGreatDoor

namespace Go.Proofs.YtngpopalpofhgaaGreatDoor
open Go.RowKit
set_option maxHeartbeats 4000000
set_option maxRecDepth 100000
theorem isP_inI {p : List Int} (hp : IsP p) (hn : p.length ≤ 256) : ∀ x ∈ p, InI x := fun x hx => by
 have := isP_mem hp x hx
 unfold InI
 omega
theorem CheckPermOk_any (a : Option Addr) (cap : Nat) (p : List Int) (w : World) (hS : Ints w a cap p) (hp : IsP p) (hn : p.length ≤ 256) :
  Calls Tryz.prog 91 #[.slice a p.length cap] w fun r w' => r = .returned (.int .i64 0) ∧ Below w.heap.size w w' := by
 have := CheckPerm_any a cap p w hS (isP_inI hp hn)
 rwa [permE_ok hp hn] at this
theorem Cycles_any (a : Option Addr) (cap : Nat) (p : List Int) (w : World) (hS : Ints w a cap p) (hp : IsP p) (hn : p.length ≤ 256) :
  Calls Tryz.prog 88 #[.slice a p.length cap] w fun r w' => ∃ (v : Value) (qs : List (SlH × List Int)), r = .returned (.tuple #[v, .int .i64 0]) ∧ qs.map Prod.snd = cycK p p.length ∧ SL w.heap.size w w' (pOwn cSl 1 22 v (qs.map Prod.fst) :: qs.map inP) := by
 have hcap := hS.le
 have HC := hid (fun w (h : Ints w a cap p) => CheckPermOk_any a cap p w h hp hn)
 have HY := hid (fun w (h : Ints w a cap p) => cycles_any a cap p w h hp (by omega))
 have hS0 := SL.nil w
 go_enter Tryz.func88, Tryz.ntmps88
 go_wp2_with fail
 refine (HC.out _ hS).mono ?_
 rintro e w1 ⟨rfl, b1⟩
 have hS1 := hS0.mono b1
 clear hS0
 go_wp2_with fail
 refine (HY.out _ (hS.below b1)).mono ?_
 rintro e w2 ⟨v, qs, rfl, hqs, hC2⟩
 have hS2 := hS1.call hC2
 rw [List.append_nil] at hS2
 clear hS1 hC2
 go_wp2_with fail
 go_ret2
 exact ⟨v, qs, rfl, hqs, hS2⟩
end Go.Proofs.YtngpopalpofhgaaGreatDoor

namespace Go.Proofs.YtngpopalpofhgaaGreatDoor
open Go.RowKit
set_option maxHeartbeats 8000000
set_option maxRecDepth 100000
theorem word_rng {n : Nat} {l : List Int} (h : wordE (n : Int) l = 0) : ∀ x ∈ l, 1 ≤ absI x ∧ absI x < (n : Int) := fun x hx => by
 obtain ⟨_, _, _, h4⟩ := wordE_fits h
 have := h4 x hx
 unfold absI
 split <;> omega
theorem permB_ok {n : Nat} {l : List Int} (h : wordE (n : Int) l = 0) : IsP (permB n l) ∧ (permB n l).length = n := by
 have hv := row5_isP l (idL n) (idL_isP n) (fun x hx => by rw [idL_len]; exact word_rng h x hx)
 exact ⟨invL_isP hv, by unfold permB; rw [invL_len, row5_len, idL_len]⟩
theorem bPerm_any (n : Nat) (a : Option Addr) (cap : Nat) (l : List Int) (w : World) (hS : Ints w a cap l) (h : wordE (n : Int) l = 0) :
  Calls Tryz.prog 24 #[.int .i64 n, .slice a l.length cap] w fun r w' => ∃ v, r = .returned (.tuple #[v, .int .i64 0]) ∧ OwnI w.heap.size w' v (permB n l) ∧ Below w.heap.size w w' := by
 obtain ⟨hn1, hn2, hl, _⟩ := wordE_fits h
 have CW := fun w (hS : Ints w a cap l) => CheckWord_any n a cap l w hS (by omega)
 rw [h] at CW
 have HW := hid CW
 have HP := hid (fun w (hS : Ints w a cap l) => perm_any5 a cap n l w (by omega) (by omega) (by omega) (word_rng h) hS)
 have hS0 := SL.nil w
 clear CW h
 go_enter Tryz.func24, Tryz.ntmps24
 go_wp2_with fail
 refine (HW.out _ hS).mono ?_
 rintro e w1 ⟨rfl, b1⟩
 have hS1 := hS0.mono b1
 clear hS0
 go_wp2_with fail
 refine (HP.out _ (hS.below b1)).mono ?_
 rintro e w2 ⟨v2, rfl, ho2, b2⟩
 have hS2 := hS1.call (SL.ofOwn ho2 b2)
 rw [List.append_nil] at hS2
 clear hS1 ho2
 go_wp2_with fail
 go_ret2
 exact ⟨v2, rfl, hS2.own 0 rfl, hS2.b⟩
theorem bComponents_any (n : Nat) (a : Option Addr) (cap : Nat) (l : List Int) (w : World) (hS : Ints w a cap l) (h : wordE (n : Int) l = 0) :
  Calls Tryz.prog 37 #[.int .i64 n, .slice a l.length cap] w fun r w' => ∃ (v : Option Addr × Nat), r = .returned (.tuple #[.slice v.1 (cycK (permB n l) n).length v.2, .int .i64 0]) ∧ Below w.heap.size w w' := by
 obtain ⟨hn1, hn2, hl, _⟩ := wordE_fits h
 obtain ⟨hip, hpl⟩ := permB_ok h
 have CW := fun w (hS : Ints w a cap l) => CheckWord_any n a cap l w hS (by omega)
 rw [h] at CW
 have HW := hid CW
 have HP := hid (fun w (hS : Ints w a cap l) => perm_any5 a cap n l w (by omega) (by omega) (by omega) (word_rng h) hS)
 have CC := fun (a : Option Addr) (c : Nat) w h => Cycles_any a c (permB n l) w h hip (by omega)
 rw [hpl] at CC
 have HC := hid CC
 have HPL := hid hpl
 have hS0 := SL.nil w
 clear CW h CC hip hpl
 go_enter Tryz.func37, Tryz.ntmps37
 go_wp2_with fail
 refine (HW.out _ hS).mono ?_
 rintro e w1 ⟨rfl, b1⟩
 have hS1 := hS0.mono b1
 clear hS0
 go_wp2_with fail
 refine (HP.out _ (hS.below b1)).mono ?_
 rintro e w2 ⟨v2, rfl, ho2, b2⟩
 obtain ⟨a2, c2, rfl, h2, _, _⟩ := ho2.reps
 have hS2 := hS1.mono b2
 rw [HPL.out]
 clear hS1 ho2
 go_wp2_with fail
 refine (HC.out _ _ _ h2).mono ?_
 rintro e w3 ⟨v3, qs, rfl, hq, hS3⟩
 have hl3 : (qs.map Prod.fst).length = (cycK (permB n l) n).length := by
  rw [← hq, List.length_map, List.length_map]
 obtain ⟨a4, c4, e4, _⟩ := hS3.slice 0 rfl
 rw [hl3] at e4
 subst e4
 have b3 := hS2.mono hS3.b
 clear hq hl3 hS3
 go_wp2_with fail
 go_ret2
 exact ⟨(a4, c4), rfl, b3.b⟩
end Go.Proofs.YtngpopalpofhgaaGreatDoor

namespace Go.Proofs.YtngpopalpofhgaaGreatDoor
open Go.RowKit
set_option maxHeartbeats 4000000
set_option maxRecDepth 100000
theorem bPower_any (n : Int) (a : Option Addr) (cap c : Nat) (l : List Int) (w : World) (hS : Ints w a cap l) (h : wordE n l = 0) (h0 : 0 < l.length) (hc0 : 0 < c) (hc : c ≤ 200) (hlc : l.length * c ≤ 200) :
  Calls Tryz.prog 40 #[.int .i64 n, .slice a l.length cap, .int .i64 c] w fun r w' => ∃ v, r = .returned (.tuple #[v, .int .i64 0]) ∧ OwnI w.heap.size w' v (cyc l (l.length * c)) ∧ Below w.heap.size w w' := by
 have hl := (wordE_fits h).2.2.1
 have CW := fun w (hS : Ints w a cap l) => CheckWord_any n a cap l w hS (by omega)
 rw [h] at CW
 have HW := hid CW
 have HP := hid (fun w (hS : Ints w a cap l) => Repeat_any a cap c l w hS h0 (by omega) hc0 (by omega))
 have hcl : (cyc l (l.length * c)).length ≤ 200 := by rw [cyc_len]; exact hlc
 have HCL := hid hcl
 have hS0 := SL.nil w
 have d0 : ((l.length : Int) == 0) = false := beq_eq_false_iff_ne.2 (by omega)
 have d1 : decide (200 < (c : Int)) = false := decide_eq_false (by omega)
 have d2 : decide ((c : Int) < -200) = false := decide_eq_false (by omega)
 have d3 : decide ((c : Int) < 0) = false := decide_eq_false (by omega)
 clear CW h h0 hc0 hc hlc hcl
 go_enter Tryz.func40, Tryz.ntmps40
 go_wp2_with fail
 refine (HW.out _ hS).mono ?_
 rintro e w1 ⟨rfl, b1⟩
 have hS1 := hS0.mono b1
 clear hS0
 go_wp2_with fail
 refine (HP.out _ (hS.below b1)).mono ?_
 rintro e w2 ⟨v2, rfl, ho2, b2⟩
 obtain ⟨a2, c2, rfl, _, _, _⟩ := ho2.reps
 have hS2 := hS1.call (SL.ofOwn ho2 b2)
 rw [List.append_nil] at hS2
 clear hS1 ho2
 go_wp2_with fail
 refine (blimited_any a2 c2 _ _ HCL.out).mono ?_
 rintro e w3 ⟨rfl, rfl⟩
 go_wp2_with fail
 go_ret2
 exact ⟨_, rfl, hS2.own 0 rfl, hS2.b⟩
end Go.Proofs.YtngpopalpofhgaaGreatDoor
