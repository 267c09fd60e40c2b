/- Contracts and plain facts that the claim uses (RfD RlD RlE RtP RtM MaR MbF MbU MbW TuP RmP SpB AlA QrF QrT QrV WvP NrP). Conditions: as each one states. -/
import Derived.RangeFuncNested
import Derived.RangeFuncBound
import Derived.RangeFuncCalls
import Derived.RangeFuncLeaves
import Derived.RangeFuncFrom
import Derived.Shelf.Abstract
import Derived.Shelf.RegionOpen
import Derived.WalkKit
import Derived.OwnWalkIn
import Derived.TacticsInMore
import Derived.LoopNIn
import Derived.LoopIn
import Derived.Test.YtglpfpdomnllkaaGreatDoorProg
import Derived.WalkSpells
import Derived.Maps.AppendAt
import Derived.Deep.Quiet
import Derived.Maps.Own
import Derived.Maps.OwnSet
import Derived.Maps.Views
import Derived.WalkLawsBesides
import Derived.Laws.EntriesVeiled
import Derived.Deep.QuietTactic
import Derived.BigQuiet
import Derived.StillTail
import Derived.Laws.Tables
import Derived.Deep.RegionHeld3
import Derived.Shelf.Strings.Trim
import Derived.Shelf.Strings.SlTrimAscii
import Derived.Shelf.Strings.Repeat
import Derived.Shelf.Strings.OnBuilder
import Derived.Shelf.Strconv.Itoa1
import Derived.Shelf.Strconv.Itoa3
import Derived.Shelf.LaysM
import Derived.Ground.Names2Prog
import Derived.Lib.OthersKept
import Derived.Deep.AppendLies
import Derived.Deep.RegionHeldLaw
import Derived.Deep.RegionLaw
import Derived.IntWalk
import Derived.Laws.CopyOwn
import Derived.BigRegion
import Derived.ChangeAlike
import Derived.Shelf.Bits.Mul64
import Derived.Lib.ItoaLen
import Derived.Lib.ItoaMem
import Derived.Sort.LoopGhostIn
import Derived.Maps.RangeWalk
import Derived.Sort.QuietThIn
import Derived.Maps.Ext
import Derived.Deep.LoopGhost
import Derived.Test.YtglpfpdomnllkaaGreatDoorXd01
import Derived.Test.YtglpfpdomnllkaaGreatDoorXd02
import Derived.Test.YtglpfpdomnllkaaGreatDoorXd03
import Derived.Test.YtglpfpdomnllkaaGreatDoorXd04
import Derived.Test.YtglpfpdomnllkaaGreatDoorY7301
import Derived.Test.YtglpfpdomnllkaaGreatDoorY7302
set_option linter.all false

namespace Go.Proofs.YtglpfpdomnllkaaGreatDoor
open Go.RowKit
set_option maxRecDepth 100000
theorem SL.put {B : Nat} {w0 w : World} {L : List Pc} {k : Nat} {o : Obj} (h : SL B w0 w L) (i : Nat) (hi : L[i]? = some (pBlk k o)) (o' : Obj) : SL B w0 (w.putObj k o') (L.set i (pBlk k o')) := by
 obtain ⟨b, ⟨rfl, h1⟩, h3, h4⟩ := h.upd i hi
 exact h4 _ _ (some k) (grownBy_putObj' _ _ _) ⟨rfl, World.putObj_heap_same (Array.getElem?_eq_some_iff.1 h1).1⟩ (.inl rfl)
/-- the contract of such an iterator: R0 are the pieces that it finds and leaves, Yp x those that a yield of x hands over. -/
def SeqPcs {α : Type} (F : Fence) (n : Nat) (P : Program) (g : Nat) (lb : Array Value) (encs : α → Array Value) (Yp : α → List Pc) (S : List α → Prop) (N : Nat) (R0 : List Pc) (B : Nat) (w0 : World) : Prop :=
 ∀ (σ : Type) (l : Nat) (Inv : List α → σ → Prop) (pcs : σ → List Pc) (Rest : List Pc) (W : World) (s0 : σ),
  (∀ pre x s R W1, Inv pre s → SL B w0 W1 (pcs s ++ (Yp x ++ (R ++ Rest))) → pre.length < N → YieldAt F (n - 1) P l (encs x) W1 fun e W' => e = .returned (.bool true) ∧ ∃ s', Inv (pre ++ [x]) s' ∧ SL B w0 W' (pcs s' ++ (R ++ Rest))) →
  Inv [] s0 → SL B w0 W (pcs s0 ++ (R0 ++ Rest)) → CallsIn F n P g (#[.func (.yield l) #[] #[]] ++ lb) W fun e W' => (∃ v, e = .returned v) ∧ ∃ xs s, S xs ∧ Inv xs s ∧ SL B w0 W' (pcs s ++ (R0 ++ Rest))
section
variable {F : Fence} {n : Nat} {P : Program}
theorem rangeFunc_pcs {α σ : Type} {g : Operand} {ps : Array Tmp} {assign body : Code} {Q : Exit → Act → World → Prop} {a : Act} {w : World}
  (hro : F.round = none) (h1 : 1 ≤ n) {gf : Nat} {lb : Array Value} (hg : a.eval g = .func (.func gf) #[] lb) (hFg : F.fn gf) (eg : ∀ args w, (callFunc gf args).run P w = .ok (.enter gf args) w)
  {encs : α → Array Value} {Yp : α → List Pc} {S : List α → Prop} {N : Nat} {R0 : List Pc} {B : Nat} {w0 : World} (hseq : SeqPcs F (n - 1) P gf lb encs Yp S N R0 B w0) (hps : ∀ x, (encs x).size = ps.size)
  (Inv : List α → σ → Prop) (pcs : σ → List Pc) (s0 : σ) (h0 : Inv [] s0) (hS0 : SL B w0 w (pcs s0 ++ R0))
  (hround : ∀ (l : Nat) (pre : List α) (x : α) (s : σ) (R : List Pc) (W : World), Inv pre s → SL B w0 W (pcs s ++ (Yp x ++ R)) → pre.length < N →
   assign.wpIn (F.inRound l) (n - 1 - 1) P (Exit.then (fun a1 W1 => ∃ K1, SL B w0 W1 (K1 ++ R) ∧ ∀ R2 W2, SL B w0 W2 (K1 ++ R2) →
    body.wpIn (F.inRound l) (n - 1 - 1) P (fun e _ W3 => e = .normal ∧ ∃ s', Inv (pre ++ [x]) s' ∧ SL B w0 W3 (pcs s' ++ R2)) a1 W2) (fun _ _ _ => False)) { tmps := (ps.zip (encs x)).foldl (fun t (p, v) => t.setIfInBounds p v) a.tmps, defers := [] } W)
  (hdone : ∀ (D : Nat) (xs : List α) (s : σ) (W : World), w.heap.size ≤ D → S xs → Inv xs s → SL B w0 W (pMark D :: (pcs s ++ R0)) → Q .normal { a with defers := { target := .collected D, args := #[] } :: a.defers } W) :
  (Code.rangeFunc g ps assign body).wpIn F n P Q a w := by
 refine wpIn_rangeFunc ?_
 intro fn hfn
 rw [hro]
 obtain ⟨rec, hrec⟩ : ∃ rec : LoopState → Option Code → Loop, rec = fun st pe => { state := st, pending := pe, fn, tmps := a.tmps, params := ps, assign, body, defers := w.heap.size } := ⟨_, rfl⟩
 obtain ⟨W1, hW1⟩ : ∃ W1, (w.alloc (.deferred (some []))).alloc (.loop (rec .ready none)) = W1 := ⟨_, rfl⟩
 have hS1 : SL B w0 W1 (pcs s0 ++ (R0 ++ [pBlk (w.heap.size + 1) (.loop (rec .ready none)), pMark w.heap.size])) := by
  have h := (hS0.box (.deferred (some []))).box (.loop (rec .ready none))
  simp only [World.size_alloc, hW1] at h
  have h2 : SL B w0 W1 ((pcs s0 ++ R0) ++ [pBlk (w.heap.size + 1) (.loop (rec .ready none)), pMark w.heap.size]) := SL.comm (K := [pBlk (w.heap.size + 1) (.loop (rec .ready none)), pMark w.heap.size]) h
  rwa [List.append_assoc] at h2
 refine ⟨w.heap.size + 1, [{ target := .collected w.heap.size, args := #[] }], W1, { target := .fn (.func gf) lb, args := #[.func (.yield (w.heap.size + 1)) #[] #[]] }, W1, gf,
  #[.func (.yield (w.heap.size + 1)) #[] #[]] ++ lb, W1, ?_, ?_, ?_, ?_, fun _ => h1, ?_⟩
 ·rw [← hW1, hrec]; exact run_enterLoop_outer _ _ _ _ _
 ·simp only [resolve, hg]
  simp [go_sem]
 ·intro f' hf'; simp [Target.leads] at hf'; subst hf'; exact hFg
 ·simp [invoke, go_sem, eg]
 ·refine (hseq σ (w.heap.size + 1) Inv pcs [pBlk (w.heap.size + 1) (.loop (rec .ready none)), pMark w.heap.size] W1 s0 ?_ h0 hS1).mono ?_
  ·intro pre x s R W hi hS hlen
   have front : ∀ (K : List Pc) (o : Obj) (V : World), SL B w0 V (K ++ (R ++ [pBlk (w.heap.size + 1) o, pMark w.heap.size])) → SL B w0 V ([pBlk (w.heap.size + 1) o, pMark w.heap.size] ++ (K ++ R)) := fun K o V h => by
    rw [← List.append_assoc] at h
    exact h.comm
   have back : ∀ (K : List Pc) (o : Obj) (V : World), SL B w0 V ([pBlk (w.heap.size + 1) o, pMark w.heap.size] ++ (K ++ R)) → SL B w0 V (K ++ (R ++ [pBlk (w.heap.size + 1) o, pMark w.heap.size])) := fun K o V h => by
    have := h.comm
    rwa [List.append_assoc] at this
   have hl := ((front (pcs s ++ Yp x) _ _ (by rw [List.append_assoc]; exact hS)).blk 0 rfl).1
   have hy := run_yield (P := P) (args := encs x) hl (by rw [hrec]; exact hps x)
   rw [hrec] at hy
   refine ⟨fn, _, assign, body, hy, roundIn_of_wpIn hfn (wpIn_mono (hround _ pre x s _ W hi hS hlen) ?_)⟩
   clear hy
   intro e a1 Wa hp
   cases e with
   | normal =>
    obtain ⟨K1, hSa, hbody⟩ := hp
    have hFa := front K1 _ _ hSa
    have hl' := (hFa.blk 0 rfl).1
    refine ⟨_, run_beginRound hl' (by rw [hrec]), ?_⟩
    have hF2 := hFa.put 0 rfl (.loop { rec .ready none with state := .busy })
    refine wpIn_mono (hbody _ _ (back K1 _ _ hF2)) ?_
    rintro e a3 W3 ⟨rfl, s', hi3, hS3⟩
    have hF3 := front (pcs s') _ _ hS3
    have hl3 := (hF3.blk 0 rfl).1
    have hr := run_endRound (P := P) none hl3
    rw [hrec] at hr
    refine ⟨_, _, hr, rfl, s', hi3, ?_⟩
    have hF4 := hF3.put 0 rfl (.loop (rec .ready none))
    rw [hrec] at hF4 ⊢
    exact back (pcs s') _ _ hF4
   | _ => exact hp.elim
  ·rintro e W2 ⟨⟨v, rfl⟩, xs, s, hSx, hi, hS2⟩
   have hF : SL B w0 W2 ([pBlk (w.heap.size + 1) (.loop (rec .ready none)), pMark w.heap.size] ++ (pcs s ++ R0)) := by
    rw [← List.append_assoc] at hS2
    exact hS2.comm
   have hl := (hF.blk 0 rfl).1
   have hr := run_endLoop (P := P) hl (by rw [hrec]; simp)
   rw [hrec] at hr
   exact ⟨none, _, hr, hdone _ xs s _ (Nat.le_refl _) hSx hi (SL.tail (hF.put 0 rfl _))⟩
end
end Go.Proofs.YtglpfpdomnllkaaGreatDoor

namespace Go.Proofs.YtglpfpdomnllkaaGreatDoor
open Go.RowKit
set_option maxRecDepth 100000
section
variable {P : Program} {n r : Nat}
def Oper.noDefer (o : Oper) : Bool := match o.op with | .defer _ => false | _ => true
theorem noDefer_ne {o : Oper} (h : Oper.noDefer o = true) : ∀ c, o.op ≠ .defer c := fun c hc => by
 unfold Oper.noDefer at h
 rw [hc] at h
 cases h
theorem callsR {f : FuncId} {args : Array Value} {w : World} {R : Ending → World → Prop} (h : Calls P f args w R) : CallsIn (Fence.wide.inRound r) n P f args w R := (callsIn_wide (n := n)).2 h
theorem rowsR {row : String} {args : Array Value} {w : World} {R : Value → World → Prop} (h : Rows P row args w R) : RowsIn (Fence.wide.inRound r) n P row args w R := fun c cs _ =>
 let ⟨v, w', r, s⟩ := h c cs; ⟨v, w', r, stepsIn_wide.2 s⟩
theorem oper_wpR {o : Oper} {a : Act} {w : World} {K : Act → World → Prop} {Q Q' : Exit → Act → World → Prop} (hnd : ∀ c, o.op ≠ .defer c) (hQ : ∀ c a w, Q (.panic c) a w → Q' (.panic c) a w) (hL : LetsOut Q → LetsOut Q')
  (h : o.wp P a w K Q) : o.wpIn (Fence.wide.inRound r) n P a w K Q' := by
 refine ⟨fun _ _ => trivial, ?_⟩
 unfold Oper.wp at h
 rw [Oper.semAt_plain _ _ _ hnd]
 generalize (execOp a.eval o).run P w = res at h ⊢
 cases res with
 | ok x w' =>
  cases x with
  | value v => exact h
  | skip => exact h
  | defer d => exact h
  | enter f args =>
   refine ⟨fun h => (by simp [Fence.wide] at h), callsR (Calls.mono h fun e w'' he => ?_)⟩
   cases e with
   | returned v => exact he
   | panicked c => exact hQ _ _ _ he
   | outgrown => exact hL he
  | row row args => exact ⟨fun h => (by simp [Fence.wide] at h), rowsR h⟩
  | _ => exact absurd h (by simp [Oper.upon])
 | halt x w' =>
  cases x with
  | panic v => exact hQ _ _ _ h
  | _ => exact absurd h (by simp [Oper.upon])
theorem wpListR {ops : Array Oper} {Q Q' : Exit → Act → World → Prop} (hQ : ∀ e a w, Q e a w → Q' e a w) (hL : ¬ LetsOut Q) :
  ∀ (l : List Oper) (a : Act) (w : World), l.all Oper.noDefer = true → wpList P ops Q l a w → wpListIn (Fence.wide.inRound r) n P ops Q' l a w
 | [], a, w, _, h => hQ _ _ _ h
 | o :: l, a, w, hn, h => by
   rw [List.all_cons, Bool.and_eq_true] at hn
   unfold wpList at h
   unfold wpListIn
   split at h
   · rename_i hw
     rw [if_pos hw]
     rcases h with h | h
     · have h2 : o.wp P a w (wpListIn (Fence.wide.inRound r) n P ops Q' l) Q := by
         unfold Oper.wp at h ⊢
         generalize (execOp a.eval o).run P w = res at h ⊢
         have ih := wpListR (ops := ops) hQ hL l
         cases res with
         | ok x w' =>
           cases x with
           | value v => exact ih _ _ hn.2 h
           | skip => exact ih _ _ hn.2 h
           | defer d => exact ih _ _ hn.2 h
           | enter f args =>
             refine Calls.mono h fun e w'' he => ?_
             cases e with
             | returned v => exact ih _ _ hn.2 he
             | panicked c => exact he
             | outgrown => exact he
           | row row args => exact Rows.mono h fun v w'' he => ih _ _ hn.2 he
           | _ => exact absurd h (by simp [Oper.upon])
         | halt x w' =>
           cases x with
           | panic v => exact h
           | _ => exact absurd h (by simp [Oper.upon])
       exact oper_wpR (noDefer_ne hn.1) (fun c a w => hQ _ _ _) (fun ⟨a, w, q⟩ => ⟨a, w, hQ _ _ _ q⟩) h2
     · exact absurd h.2 hL
   · rename_i hw
     rw [if_neg hw]
     exact ⟨fun _ _ => trivial, wpListR hQ hL l _ _ hn.2 h⟩
theorem noOut {Q : Exit → Act → World → Prop} : ¬ LetsOut (fun e a w => e = .normal ∧ Q e a w) := fun h => by
 obtain ⟨_, _, h, _⟩ := h
 cases h
/-- a region that has one order, within a round. -/
theorem wpIn_regionR {id : Nat} {l : List Oper} {Q : Exit → Act → World → Prop} {a : Act} {w : World} (hn : l.all Oper.noDefer = true)
  (h : wpList P l.toArray (fun e a w => e = .normal ∧ Q e a w) l a w) : (Code.region id l.toArray false).wpIn (Fence.wide.inRound r) n P Q a w :=
 wpIn_region_lit (wpListR (fun _ _ _ h => h.2) noOut l a w hn h)
end
section
variable {P : Program} {ops : Array Oper} {rest : List Oper} {a : Act} {Q : Exit → Act → World → Prop} {α : Type} {c : α → Value} {sz bytes B : Nat} {t e : TypeId} {z v : Value} {w0 w : World} {L : List Pc} {l : List α}
end
end Go.Proofs.YtglpfpdomnllkaaGreatDoor

namespace Go.Proofs.YtglpfpdomnllkaaGreatDoor
open Go.RowKit
set_option maxRecDepth 100000
section
variable {P : Program} {n : Nat}
theorem rowsW {row : String} {args : Array Value} {w : World} {R : Value → World → Prop} (h : Rows P row args w R) : RowsIn Fence.wide n P row args w R := fun c cs _ =>
 let ⟨v, w', r, s⟩ := h c cs; ⟨v, w', r, stepsIn_wide.2 s⟩
theorem oper_wpW {o : Oper} {a : Act} {w : World} {K : Act → World → Prop} {Q Q' : Exit → Act → World → Prop} (hnd : ∀ c, o.op ≠ .defer c) (hQ : ∀ c a w, Q (.panic c) a w → Q' (.panic c) a w) (hL : LetsOut Q → LetsOut Q')
  (h : o.wp P a w K Q) : o.wpIn Fence.wide n P a w K Q' := by
 refine ⟨fun _ _ => trivial, ?_⟩
 unfold Oper.wp at h
 rw [Oper.semAt_plain _ _ _ hnd]
 generalize (execOp a.eval o).run P w = res at h ⊢
 cases res with
 | ok x w' =>
  cases x with
  | value v => exact h
  | skip => exact h
  | defer d => exact h
  | enter f args =>
   refine ⟨fun h => (by simp [Fence.wide] at h), callsIn_wide.2 (Calls.mono h fun e w'' he => ?_)⟩
   cases e with
   | returned v => exact he
   | panicked c => exact hQ _ _ _ he
   | outgrown => exact hL he
  | row row args => exact ⟨fun h => (by simp [Fence.wide] at h), rowsW h⟩
  | _ => exact absurd h (by simp [Oper.upon])
 | halt x w' =>
  cases x with
  | panic v => exact hQ _ _ _ h
  | _ => exact absurd h (by simp [Oper.upon])
theorem wpListW {ops : Array Oper} {Q Q' : Exit → Act → World → Prop} (hQ : ∀ e a w, Q e a w → Q' e a w) (hL : ¬ LetsOut Q) :
  ∀ (l : List Oper) (a : Act) (w : World), l.all Oper.noDefer = true → wpList P ops Q l a w → wpListIn Fence.wide n P ops Q' l a w
 | [], a, w, _, h => hQ _ _ _ h
 | o :: l, a, w, hn, h => by
   rw [List.all_cons, Bool.and_eq_true] at hn
   unfold wpList at h
   unfold wpListIn
   split at h
   · rename_i hw
     rw [if_pos hw]
     rcases h with h | h
     · have h2 : o.wp P a w (wpListIn Fence.wide n P ops Q' l) Q := by
         unfold Oper.wp at h ⊢
         generalize (execOp a.eval o).run P w = res at h ⊢
         have ih := wpListW (ops := ops) hQ hL l
         cases res with
         | ok x w' =>
           cases x with
           | value v => exact ih _ _ hn.2 h
           | skip => exact ih _ _ hn.2 h
           | defer d => exact ih _ _ hn.2 h
           | enter f args =>
             refine Calls.mono h fun e w'' he => ?_
             cases e with
             | returned v => exact ih _ _ hn.2 he
             | panicked c => exact he
             | outgrown => exact he
           | row row args => exact Rows.mono h fun v w'' he => ih _ _ hn.2 he
           | _ => exact absurd h (by simp [Oper.upon])
         | halt x w' =>
           cases x with
           | panic v => exact h
           | _ => exact absurd h (by simp [Oper.upon])
       exact oper_wpW (noDefer_ne hn.1) (fun c a w => hQ _ _ _) (fun ⟨a, w, q⟩ => ⟨a, w, hQ _ _ _ q⟩) h2
     · exact absurd h.2 hL
   · rename_i hw
     rw [if_neg hw]
     exact ⟨fun _ _ => trivial, wpListW hQ hL l _ _ hn.2 h⟩
theorem wpListW' {ops : Array Oper} {Q : Exit → Act → World → Prop} {l : List Oper} {a : Act} {w : World} (hn : l.all Oper.noDefer = true) (h : wpList P ops (fun e a w => e = .normal ∧ Q e a w) l a w) : wpListIn Fence.wide n P ops Q l a w :=
 wpListW (fun _ _ _ h => h.2) noOut l a w hn h
theorem wpListR' {r : Nat} {ops : Array Oper} {Q : Exit → Act → World → Prop} {l : List Oper} {a : Act} {w : World} (hn : l.all Oper.noDefer = true) (h : wpList P ops (fun e a w => e = .normal ∧ Q e a w) l a w) : wpListIn (Fence.wide.inRound r) n P ops Q l a w :=
 wpListR (fun _ _ _ h => h.2) noOut l a w hn h
end
end Go.Proofs.YtglpfpdomnllkaaGreatDoor

namespace Go.Proofs.YtglpfpdomnllkaaGreatDoor
open Go.RowKit
set_option maxHeartbeats 1000000
set_option maxRecDepth 100000

open Go.Maps in
/-- the map counts the numbers of the list. -/
structure CntD (D : DataW Unit) (l : List Int) : Prop where
 map : IsMap D
 key : ∀ kl, has D kl = true ↔ ∃ x ∈ l, kl = .int .i64 x
 cnt : ∀ x ∈ l, ∀ z, D.atKey (.int .i64 x) z = .lit (.int .i64 (l.count x))
open Go.Maps in
theorem CntD.step {D : DataW Unit} {l : List Int} (h : CntD D l) {x : Int} (hk : WideAt.IsKeyLit (.int .i64 x)) : CntD (D.put (.int .i64 x) (.lit (.int .i64 ((l.count x : Int) + 1)))) (l ++ [x]) := by
 refine ⟨h.map.put _ _, fun kl => ?_, fun y hy z => ?_⟩
 ·by_cases e : kl = .int .i64 x
  ·subst e
   rw [has_put_same h.map hk]
   simp
  ·rw [has_put_other e, h.key]
   constructor
   ·rintro ⟨y, hy, rfl⟩; exact ⟨y, by simp [hy], rfl⟩
   ·rintro ⟨y, hy, rfl⟩
    rcases List.mem_append.1 hy with hy | hy
    ·exact ⟨y, hy, rfl⟩
    ·simp only [List.mem_singleton] at hy
     subst hy; exact absurd rfl e
 ·by_cases e : y = x
  ·subst e
   rw [atKey_put_same h.map hk]
   simp
  ·have hy2 : y ∈ l := by
    rcases List.mem_append.1 hy with hy | hy
    ·exact hy
    ·simp only [List.mem_singleton] at hy; exact absurd hy e
   rw [atKey_put_other (fun e2 => e (by cases e2; rfl)), h.cnt y hy2]
   have : ([x] : List Int).count y = 0 := List.count_eq_zero.2 (by simpa using e)
   rw [List.count_append, this, Nat.add_zero]
open Go.Maps in
theorem CntD.same {D E : DataW Unit} {l m : List Int} (h : CntD D l) (k : CntD E m) (cD : Canon D) (cE : Canon E) (hc : ∀ x, m.count x = l.count x) : D = E := by
 have hm : ∀ x, x ∈ l ↔ x ∈ m := fun x => by rw [← List.count_pos_iff, ← List.count_pos_iff, hc]
 have hh : ∀ kl, has D kl = has E kl := fun kl => by
  rw [Bool.eq_iff_iff, h.key, k.key]
  constructor
  ·rintro ⟨x, a, b⟩; exact ⟨x, (hm x).1 a, b⟩
  ·rintro ⟨x, a, b⟩; exact ⟨x, (hm x).2 a, b⟩
 refine ext cD cE hh (fun kl z hk => ?_)
 obtain ⟨x, hx, rfl⟩ := (h.key kl).1 hk
 rw [h.cnt x hx, k.cnt x ((hm x).1 hx), hc]
end Go.Proofs.YtglpfpdomnllkaaGreatDoor

namespace Go.Proofs.YtglpfpdomnllkaaGreatDoor
open Go.RowKit Go.Maps
set_option maxRecDepth 100000

def CntM (w : World) (b n : Nat) (l : List Int) : Prop := ∃ D : DataW Unit, w.ownsMap Tryz.prog 3 (plainElem Tryz.prog 3) b n D ∧ CntD D l
theorem CntM.kept {w w' : World} {b n : Nat} {l : List Int} {row : Option Nat} (h : CntM w b n l) (hg : w.grownBy w' row) (hne : some b ≠ row) : CntM w' b n l := by
 obtain ⟨D, h1, h2⟩ := h; exact ⟨D, h1.kept hg hne, h2⟩
theorem CntM.lt {w : World} {b n : Nat} {l : List Int} (h : CntM w b n l) : b < w.heap.size := by obtain ⟨D, h1, _⟩ := h; exact h1.lt
def pCnt (k n : Nat) (l : List Int) : Pc where
 P w b := b = some k ∧ CntM w k n l
 lt w j h := by obtain ⟨h1, h2⟩ := h; cases h1; exact h2.lt
 loc w w' row b h hg hne := ⟨h.1, h.2.kept hg (fun e => hne k h.1 e.symm)⟩
theorem SL.cnt {B : Nat} {w0 w : World} {L : List Pc} {k n : Nat} {l : List Int} (h : SL B w0 w L) (i : Nat) (hi : L[i]? = some (pCnt k n l)) : CntM w k n l := by
 obtain ⟨b, ⟨_, h1⟩, _⟩ := h.upd i hi
 exact h1
section
variable {ops : Array Oper} {rest : List Oper} {a : Act} {Q : Exit → Act → World → Prop} {d : Option Tmp} {ty : TypeId} {p : String} {m x y : Operand} {af : Array Edge} {g : Option (Nat × Bool)} {b n B : Nat} {k : Int} {w0 w : World} {L : List Pc} {l : List Int}
end
section
variable {P : Program} {ops : Array Oper} {rest : List Oper} {a : Act} {α : Type} {c : α → Value} {sz bytes : Nat} {t e t2 e2 : TypeId} {z : Value} {ad : Option Addr} {cap n : Nat} {l : List α} {k : Int} {w : World}
 {d1 d2 d3 : Tmp} {ty1 ty2 ty3 : TypeId} {p1 p2 p3 : String} {s x : Operand} {af1 af2 af3 : Array Edge} {j : Nat} {g1 g2 g3 : Option (Nat × Bool)}
end
section
variable {P : Program} {ops : Array Oper} {a : Act} {ty : TypeId} {p : String} {af : Array Edge} {g : Option (Nat × Bool)} {d : Tmp} {C : World → Prop}
theorem yieldsK_cellC {e : TypeId} {s : Operand} {x : Addr} {v : Value} (hF : Flat P e) (hb : ∀ w, C w → w.cell? x = some v) (hg : Region.wanted (⟨some d, .load e s, ty, p, af, g⟩ : Oper) (yielded ops a.tmps) = true) (hs : a.eval s = .pointer (some x)) :
  YieldsK P ops C ⟨some d, .load e s, ty, p, af, g⟩ v a :=
 .inl ⟨hg, fun w' hw' => by simp [execOp, hs, run_loadAt_cell w' hF (hb w' hw'), Result.andThen]⟩
end
end Go.Proofs.YtglpfpdomnllkaaGreatDoor

namespace Go.Proofs.YtglpfpdomnllkaaGreatDoor
open Go.RowKit
set_option maxHeartbeats 8000000
set_option maxRecDepth 100000

def noM : MacV := ⟨false, 0, 0, []⟩
end Go.Proofs.YtglpfpdomnllkaaGreatDoor

namespace Go.Proofs.YtglpfpdomnllkaaGreatDoor
open Go.RowKit
set_option maxHeartbeats 2000000
set_option maxRecDepth 100000

section
variable {P : Program} {t e : TypeId} {w : World} {v : Value} {l : List Int} {y : Int}
end
/-- what an append leaves of the shorter slice. -/
def Sib (v : Value) (l : List Int) (v' : Value) (T M : List Pc) : Prop :=
 (T = M ∧ ∃ g c, v = .slice (some ⟨g, 0, none⟩) l.length c ∧ v' = .slice (some ⟨g, 0, none⟩) (l.length + 1) c) ∨ T = pOwn cInt 1 3 v l :: M
theorem own_shorter {e : TypeId} {w : World} {g c : Nat} {l : List Int} {y : Int} {B : Nat} (h : Own cInt 1 B e w (.slice (some ⟨g, 0, none⟩) (l.length + 1) c) (l ++ [y])) : Own cInt 1 B e w (.slice (some ⟨g, 0, none⟩) l.length c) l := by
 obtain ⟨h1, h2, h3⟩ := h
 have hfl : ∀ L : List Int, (L.flatMap fun x => (cInt x).cells.toList).length = L.length * 1 := fun L => flat_len _ 1 (fun x => by simpa using cIntS x) L
 refine ⟨h1, hfl l, ?_⟩
 rcases h3 with ⟨h3, _⟩ | ⟨g', c', cur, hv, hB, hg, hnc, hcm, hcs, htk⟩
 ·cases h3
 ·simp only [Value.slice.injEq, Option.some.injEq, Addr.mk.injEq, and_true] at hv
  obtain ⟨rfl, _, rfl⟩ := hv
  refine .inr ⟨g, c, cur, rfl, hB, hg, ?_, hcm, hcs, ?_⟩
  ·simp at hnc; omega
  ·rw [List.flatMap_append] at htk
   have h4 := congrArg (List.take (l.length * 1)) htk
   rw [List.take_take, List.length_append, List.length_cons, List.length_nil] at h4
   rw [show min (l.length * 1) ((l.length + (0 + 1)) * 1) = l.length * 1 by omega] at h4
   rw [h4, ← hfl l, List.take_left]
theorem Sib.back {B : Nat} {w0 w : World} {v v' : Value} {l : List Int} {y : Int} {T M : List Pc} {p q : Pc} (h : Sib v l v' T M) (hS : SL B w0 w (p :: q :: pOwn cInt 1 3 v' (l ++ [y]) :: T)) : SL B w0 w (p :: q :: pOwn cInt 1 3 v l :: M) := by
 rcases h with ⟨rfl, g, c, rfl, rfl⟩ | rfl
 ·exact hS.weaken 2 rfl (pOwn cInt 1 3 (.slice (some ⟨g, 0, none⟩) l.length c) l) (fun b hb => ⟨own_shorter hb.1, hb.2⟩)
 ·exact SL.pickA (K := [p, q, pOwn cInt 1 3 v' (l ++ [y]), pOwn cInt 1 3 v l]) (M := M) hS [0, 1, 3] (by decide) (by simp) [p, q, pOwn cInt 1 3 v l] rfl
section
variable {ops : Array Oper} {rest : List Oper} {a : Act} {Q : Exit → Act → World → Prop} {w0 w : World} {M : List Pc} {B : Nat} {v : Value} {l : List Int}
end

end Go.Proofs.YtglpfpdomnllkaaGreatDoor

namespace Go.Proofs.YtglpfpdomnllkaaGreatDoor
open Go.RowKit
set_option maxHeartbeats 8000000
set_option maxRecDepth 100000

/-- a crossing as it is told. -/
def cX (c : CrM) : Value := .agg #[.int .i64 c.gear, .int .i64 c.over, .int .i64 c.under]
attribute [go_sem] cX
end Go.Proofs.YtglpfpdomnllkaaGreatDoor

namespace Go.Proofs.YtglpfpdomnllkaaGreatDoor
open Go.RowKit
set_option maxHeartbeats 8000000
set_option maxRecDepth 100000

theorem foldC_step {cs : List CrM} {i : Nat} (h : i < cs.length) (st : List Int × List Int) : (cs.take (i + 1)).foldl weaveC st = weaveC ((cs.take i).foldl weaveC st) (atD ⟨0, 0, 0, 0⟩ cs i) := by
 rw [List.take_succ_eq_append_getElem h, List.foldl_append]
 simp [atD, h]

theorem weaveC_at {st : List Int × List Int} {c : CrM} {p : Nat} (h : idxO st.1 c.going = some (p : Int)) : weaveC st c = (swpL st.1 p, st.2 ++ [if c.over = c.going then (p : Int) + 1 else -(p : Int) - 1]) := by
 have e : idxZ st.1 c.going = p := by unfold idxZ; rw [h]; rfl
 unfold weaveC letterC
 rw [e]
 rfl

section
variable {ops : Array Oper} {rest : List Oper} {a : Act} {Q : Exit → Act → World → Prop} {w : World} {ty : TypeId} {p : String} {af : Array Edge}
end

end Go.Proofs.YtglpfpdomnllkaaGreatDoor

namespace Go.Proofs.YtglpfpdomnllkaaGreatDoor
set_option maxRecDepth 100000
theorem nodup_map {l : List Int} {f : Int → Int} (hn : l.Nodup) (h : ∀ x ∈ l, ∀ y ∈ l, f x = f y → x = y) : (l.map f).Nodup := by
 rw [List.nodup_iff_pairwise_ne, List.pairwise_map]
 exact (List.nodup_iff_pairwise_ne.1 hn).imp_of_mem fun {x y} hx hy hxy e => hxy (h x hx y hy e)
theorem atL_nodup {m : MacV} {l : List Int} (hr : ∀ x ∈ l, 0 ≤ x ∧ x < 4 * m.gears) (hn : l.Nodup) (k : Nat) : (atL m l k).Nodup :=
 nodup_map hn fun x hx y hy e => itM_inj (hr x hx).1 (hr x hx).2 (hr y hy).1 (hr y hy).2 k e
theorem atD_map2 {l : List Int} {f : Int → Int} {i : Nat} (h : i < l.length) : atD 0 (l.map f) i = f (atD 0 l i) := by simp [atD, h]
def okC (c : CrM) : Prop := (c.over = c.going ∧ c.under ≠ c.going) ∨ (c.under = c.going ∧ c.over ≠ c.going)
theorem bothX_mem {f : Int → Int → CrM} {x y : Option Int} {c : CrM} (h : c ∈ (bothX f x y).toList) : ∃ a b, x = some a ∧ y = some b ∧ c = f a b := by
 cases x with
 | none => simp [bothX] at h
 | some a =>
  cases y with
  | none => simp [bothX] at h
  | some b => simp [bothX] at h; exact ⟨a, b, rfl, rfl, h⟩
theorem crossM_mem {m : MacV} {l : List Int} {c : CrM} (h : c ∈ crossM m l) : ∃ (g a b : Int) (i j : Nat), 0 ≤ g ∧ g < m.gears ∧ i < 4 ∧ j < 4 ∧ i ≠ j ∧ opG m l g i = some a ∧ opG m l g j = some b ∧ c = mkX m g a b ∧ a ≠ b := by
 unfold crossM at h
 obtain ⟨g, hg, h⟩ := List.mem_flatMap.1 h
 have hgr := gearsL_mem.1 hg
 rw [crossG_eq, crossA_eq, crossA_eq, crossA_eq] at h
 have fin : ∀ i j : Nat, i < 4 → j < 4 → i ≠ j → c ∈ (bothX (mkX m g) (opG m l g i) (opG m l g j)).toList → ∃ (g a b : Int) (i j : Nat), 0 ≤ g ∧ g < m.gears ∧ i < 4 ∧ j < 4 ∧ i ≠ j ∧ opG m l g i = some a ∧ opG m l g j = some b ∧ c = mkX m g a b ∧ a ≠ b := by
  intro i j hi hj hij hc
  obtain ⟨a, b, ha, hb, e⟩ := bothX_mem hc
  refine ⟨g, a, b, i, j, hgr.1, hgr.2, hi, hj, hij, ha, hb, e, fun eab => ?_⟩
  subst eab
  exact hij (slotG_inj hi hj (idxO_inj ha hb))
 rcases List.mem_append.1 h with h | h
 ·exact fin 1 2 (by decide) (by decide) (by decide) h
 ·rcases List.mem_append.1 h with h | h
  ·exact fin 0 2 (by decide) (by decide) (by decide) h
  ·exact fin 1 3 (by decide) (by decide) (by decide) h
theorem crossM_ok (m : MacV) (l : List Int) : ∀ c ∈ crossM m l, okC c := by
 intro c hc
 obtain ⟨g, a, b, i, j, _, _, _, _, _, _, _, e, hab⟩ := crossM_mem hc
 subst e
 unfold mkX okC
 split
 ·exact .inr ⟨rfl, fun e => hab e.symm⟩
 ·exact .inl ⟨rfl, fun e => hab e.symm⟩
end Go.Proofs.YtglpfpdomnllkaaGreatDoor

namespace Go.Proofs.YtglpfpdomnllkaaGreatDoor
set_option maxRecDepth 100000
/-- no two ever meet. -/
def AllA (m : MacV) (l : List Int) : Prop := ∀ x ∈ l, ∀ y ∈ l, x ≠ y → meetM m x y = none
structure GoodL (m : MacV) (l : List Int) (s : Int) : Prop where
 all : AllA m l
 asc : l.Pairwise (· < ·)
 rng : ∀ x ∈ l, 0 ≤ x ∧ x < s
theorem GoodL.mono {m : MacV} {l : List Int} {s t : Int} (h : GoodL m l s) (hst : s ≤ t) : GoodL m l t := ⟨h.all, h.asc, fun x hx => by have := h.rng x hx; omega⟩
end Go.Proofs.YtglpfpdomnllkaaGreatDoor

namespace Go.Proofs.YtglpfpdomnllkaaGreatDoor
open Go.RowKit
set_option maxHeartbeats 1000000
set_option maxRecDepth 100000
section
variable {P : Program} {ops : Array Oper} {rest : List Oper} {a : Act} {Qa : Act → Prop} {α : Type} {c : α → Value} {sz bytes : Nat} {t e : TypeId} {z : Value} {ad : Option Addr} {cap : Nat} {l : List α} {k : Int} {w : World}
 {d1 d2 : Tmp} {ty1 ty2 : TypeId} {p1 p2 : String} {s x : Operand} {af1 af2 : Array Edge}
theorem wpB_idx2 (d : α) (E : ETy P t e z sz bytes) (hF : Flat P e) (hc : ∀ x, (c x).cells = #[c x])
   {n : Nat} (hs : a.eval s = .slice ad n cap) (hn : l.length = n) (hx : a.eval x = .int .i64 k) (hR : Reps c sz w ad cap l) (h0 : 0 ≤ k) (hlt : k < l.length) (hd : ∀ p, (a.put (some d1) p).eval (.tmp d1) = p)
   (hK : ∀ p, wpQuiet P ops (Below w.heap.size w) Qa rest ((a.put (some d1) p).put (some d2) (c (atD d l k)))) :
   wpQuiet P ops (Below w.heap.size w) Qa (⟨some d1, .indexAddr t s x, ty1, p1, af1, none⟩ :: ⟨some d2, .load e (.tmp d1), ty2, p2, af2, none⟩ :: rest) a := by
 subst hn
 have hkl : k.toNat < l.length := by omega
 obtain ⟨b, o, rfl, hcs⟩ := hR.cells E.pos d k.toNat hkl
 have hcell := hcs 0 (c (atD d l k)) (by rw [show l.getD k.toNat d = atD d l k from rfl, hc]; rfl)
 refine wpQ_in (.pointer (some ((⟨b, o, none⟩ : Addr).add (k.toNat * sz)))) rfl (fun w' hw' => ?_) (wpQ_in (c (atD d l k)) rfl (fun w' hw' => ?_) (hK _))
 ·have h1 := run_indexAt_sl (P := P) (a := ⟨b, o, none⟩) (cap := cap) w' E h0 hlt
  simp [execOp, hs, hx, h1, Result.andThen]
 ·have h2 := run_loadAt_cell (P := P) w' (a := (⟨b, o, none⟩ : Addr).add (k.toNat * sz)) (v := c (atD d l k)) hF (by
   rw [Addr.add_z]
   exact (hw'.cell (World.block_lt_of_cell? w _ hcell)).trans hcell)
  simp [execOp, hd, h2, Result.andThen]
end
/-- the handles H lead to the lists l. -/
def LeadsTo (w : World) (H : List SlH) (l : List (List Int)) : Prop := ∀ k : Nat, k < l.length → ∃ xa xc, atD ((none, 0, 0) : SlH) H k = (xa, (atD [] l k).length, xc) ∧ Ints w xa xc (atD [] l k) ∧ (atD [] l k).length ≤ 1048576
theorem LeadsTo.below {w w' : World} {H : List SlH} {l : List (List Int)} (h : LeadsTo w H l) (hb : Below w.heap.size w w') : LeadsTo w' H l := fun k hk => by
 obtain ⟨xa, xc, h1, h2, h3⟩ := h k hk
 exact ⟨xa, xc, h1, h2.below hb, h3⟩
end Go.Proofs.YtglpfpdomnllkaaGreatDoor

namespace Go.Proofs.YtglpfpdomnllkaaGreatDoor
open Go.RowKit
set_option maxHeartbeats 1000000
set_option maxRecDepth 100000

theorem reps_of_own {α : Type} {c : α → Value} {sz B : Nat} {e : TypeId} {w : World} {a : Option Addr} {n cap : Nat} {l : List α} (h : Own c sz B e w (.slice a n cap) l) (hn : n = l.length) : Reps c sz w a cap l := by
 subst hn
 obtain ⟨a', cap', e1, hr, _⟩ := h.reps
 cases e1
 exact hr

end Go.Proofs.YtglpfpdomnllkaaGreatDoor

namespace Go.Proofs.YtglpfpdomnllkaaGreatDoor
open Go.RowKit
set_option maxHeartbeats 1000000
set_option maxRecDepth 100000

end Go.Proofs.YtglpfpdomnllkaaGreatDoor

namespace Go.Proofs.YtglpfpdomnllkaaGreatDoor
open Go.RowKit
set_option maxHeartbeats 1000000
set_option maxRecDepth 100000

end Go.Proofs.YtglpfpdomnllkaaGreatDoor

namespace Go.Proofs.YtglpfpdomnllkaaGreatDoor
open Go.RowKit
set_option maxHeartbeats 4000000
set_option maxRecDepth 100000
/-- the power of a permutation. -/
def powP (p : List Int) (n : Nat) : List Int := (List.range p.length).map fun (i : Nat) => itP p i n
theorem powP_len (p : List Int) (n : Nat) : (powP p n).length = p.length := by simp [powP]
theorem powP_at {p : List Int} {n : Nat} {x : Int} (h0 : 0 ≤ x) (h1 : x < p.length) : atD 0 (powP p n) x = itP p x n := by
 unfold powP atD
 have hs : x.toNat < p.length := by omega
 rw [List.getD_eq_getElem?_getD, List.getElem?_map, List.getElem?_range hs]
 simp [Int.toNat_of_nonneg h0]
end Go.Proofs.YtglpfpdomnllkaaGreatDoor

namespace Go.Proofs.YtglpfpdomnllkaaGreatDoor
set_option maxRecDepth 100000
/-- the rank of a slot from left to right. -/
def rankM (m : MacV) (s : Int) : Int := if s % 4 = 0 then 4 * (s / 4) else if s % 4 = 2 then 4 * (s / 4) + 3 else if (decide (s % 4 = 1)) = fwdM m (s / 4) then 4 * (s / 4) + 1 else 4 * (s / 4) + 2
theorem rank_slot (m : MacV) (g : Int) : rankM m (slotG m g 0) = 4 * g ∧ rankM m (slotG m g 1) = 4 * g + 1 ∧ rankM m (slotG m g 2) = 4 * g + 2 ∧ rankM m (slotG m g 3) = 4 * g + 3 := by
 have e0 : slotG m g 0 = 4 * g := rfl
 have e1 : slotG m g 1 = if fwdM m g then 4 * g + 1 else 4 * g + 3 := rfl
 have e2 : slotG m g 2 = if fwdM m g then 4 * g + 3 else 4 * g + 1 := rfl
 have e3 : slotG m g 3 = 4 * g + 2 := rfl
 rw [e0, e1, e2, e3]
 have d0 : (4 * g) / 4 = g := by omega
 have d1 : (4 * g + 1) / 4 = g := by omega
 have d2 : (4 * g + 2) / 4 = g := by omega
 have d3 : (4 * g + 3) / 4 = g := by omega
 have m0 : (4 * g) % 4 = 0 := by omega
 have m1 : (4 * g + 1) % 4 = 1 := by omega
 have m2 : (4 * g + 2) % 4 = 2 := by omega
 have m3 : (4 * g + 3) % 4 = 3 := by omega
 unfold rankM
 cases hf : fwdM m g
 ·simp [m0, m1, m2, m3, d0, d1, d2, d3, hf]
 ·simp [m0, m1, m2, m3, d0, d1, d2, d3, hf]
theorem slot_rank {m : MacV} {s : Int} : slotG m (s / 4) ((rankM m s % 4).toNat) = s ∧ rankM m s / 4 = s / 4 := by
 have hm : s % 4 = 0 ∨ s % 4 = 1 ∨ s % 4 = 2 ∨ s % 4 = 3 := by omega
 unfold rankM
 cases hf : fwdM m (s / 4)
 ·rcases hm with h | h | h | h
  ·rw [if_pos h, show (4 * (s / 4)) % 4 = 0 by omega]
   exact ⟨by show 4 * (s / 4) = s; omega, by omega⟩
  ·rw [if_neg (by omega), if_neg (by omega), if_neg (by simp [h]), show (4 * (s / 4) + 2) % 4 = 2 by omega]
   refine ⟨?_, by omega⟩
   show (if fwdM m (s / 4) then 4 * (s / 4) + 3 else 4 * (s / 4) + 1) = s
   rw [hf]; simp; omega
  ·rw [if_neg (by omega), if_pos h, show (4 * (s / 4) + 3) % 4 = 3 by omega]
   exact ⟨by show 4 * (s / 4) + 2 = s; omega, by omega⟩
  ·rw [if_neg (by omega), if_neg (by omega), if_pos (by simp [h]), show (4 * (s / 4) + 1) % 4 = 1 by omega]
   refine ⟨?_, by omega⟩
   show (if fwdM m (s / 4) then 4 * (s / 4) + 1 else 4 * (s / 4) + 3) = s
   rw [hf]; simp; omega
 ·rcases hm with h | h | h | h
  ·rw [if_pos h, show (4 * (s / 4)) % 4 = 0 by omega]
   exact ⟨by show 4 * (s / 4) = s; omega, by omega⟩
  ·rw [if_neg (by omega), if_neg (by omega), if_pos (by simp [h]), show (4 * (s / 4) + 1) % 4 = 1 by omega]
   refine ⟨?_, by omega⟩
   show (if fwdM m (s / 4) then 4 * (s / 4) + 1 else 4 * (s / 4) + 3) = s
   rw [hf]; simp; omega
  ·rw [if_neg (by omega), if_pos h, show (4 * (s / 4) + 3) % 4 = 3 by omega]
   exact ⟨by show 4 * (s / 4) + 2 = s; omega, by omega⟩
  ·rw [if_neg (by omega), if_neg (by omega), if_neg (by simp [h]), show (4 * (s / 4) + 2) % 4 = 2 by omega]
   refine ⟨?_, by omega⟩
   show (if fwdM m (s / 4) then 4 * (s / 4) + 3 else 4 * (s / 4) + 1) = s
   rw [hf]; simp; omega
/-- the slot with a rank. -/
def ofRank (m : MacV) (r : Int) : Int := slotG m (r / 4) (r % 4).toNat
theorem ofRank_iff {m : MacV} {s r : Int} : rankM m s = r ↔ s = ofRank m r := by
 constructor
 ·rintro rfl
  unfold ofRank
  obtain ⟨h1, h2⟩ := slot_rank (m := m) (s := s)
  rw [h2, h1]
 ·rintro rfl
  unfold ofRank
  obtain ⟨k0, k1, k2, k3⟩ := rank_slot m (r / 4)
  have hm : r % 4 = 0 ∨ r % 4 = 1 ∨ r % 4 = 2 ∨ r % 4 = 3 := by omega
  rcases hm with h | h | h | h
  ·rw [h]; show rankM m (slotG m (r / 4) 0) = r; rw [k0]; omega
  ·rw [h]; show rankM m (slotG m (r / 4) 1) = r; rw [k1]; omega
  ·rw [h]; show rankM m (slotG m (r / 4) 2) = r; rw [k2]; omega
  ·rw [h]; show rankM m (slotG m (r / 4) 3) = r; rw [k3]; omega
/-- the carriers in the order of their ranks. -/
def ordR (m : MacV) (l : List Int) (k : Nat) : List Int := (List.range k).filterMap fun (r : Nat) => idxO l (ofRank m r)
theorem ordR_gears (m : MacV) (l : List Int) : ∀ G : Nat, ordR m l (4 * G) = ((List.range G).map fun (g : Nat) => (g : Int)).flatMap (orderG m l)
 | 0 => rfl
 | G + 1 => by
   have ih := ordR_gears m l G
   rw [List.range_succ, List.map_append, List.flatMap_append, ← ih]
   have e : 4 * (G + 1) = 4 * G + 1 + 1 + 1 + 1 := by omega
   have f : ∀ k : Nat, ordR m l (k + 1) = ordR m l k ++ [idxO l (ofRank m (k : Int))].filterMap id := fun k => by
     unfold ordR
     rw [List.range_succ, List.filterMap_append]
     congr 1
   rw [e, f, f, f, f]
   simp only [List.append_assoc, ← List.filterMap_append, List.map_cons, List.map_nil, List.flatMap_cons, List.flatMap_nil, List.append_nil]
   congr 1
   rw [orderG_eq]
   unfold catO opG ofRank
   have a0 : ((4 * G : Nat) : Int) / 4 = G ∧ (((4 * G : Nat) : Int) % 4).toNat = 0 := by omega
   have a1 : ((4 * G + 1 : Nat) : Int) / 4 = G ∧ (((4 * G + 1 : Nat) : Int) % 4).toNat = 1 := by omega
   have a2 : ((4 * G + 1 + 1 : Nat) : Int) / 4 = G ∧ (((4 * G + 1 + 1 : Nat) : Int) % 4).toNat = 2 := by omega
   have a3 : ((4 * G + 1 + 1 + 1 : Nat) : Int) / 4 = G ∧ (((4 * G + 1 + 1 + 1 : Nat) : Int) % 4).toNat = 3 := by omega
   rw [a0.1, a0.2, a1.1, a1.2, a2.1, a2.2, a3.1, a3.2]
   rfl
theorem ordR_order (m : MacV) (l : List Int) (n : Nat) (hn : 4 * m.gears = n) : ordR m l n = orderM m l := by
 have e : n = 4 * m.gears.toNat := by omega
 rw [e, ordR_gears]
 rfl
end Go.Proofs.YtglpfpdomnllkaaGreatDoor

namespace Go.Proofs.YtglpfpdomnllkaaGreatDoor
set_option maxRecDepth 100000
theorem orderM_mem {m : MacV} {l : List Int} (hg : 0 ≤ m.gears) (hl : ∀ x ∈ l, 0 ≤ x ∧ x < 4 * m.gears) (hn : l.Nodup) {x : Int} : x ∈ orderM m l ↔ 0 ≤ x ∧ x < l.length := by
 obtain ⟨n, hnn⟩ : ∃ n : Nat, 4 * m.gears = n := ⟨(4 * m.gears).toNat, by omega⟩
 rw [← ordR_order m l n hnn]
 unfold ordR
 rw [List.mem_filterMap]
 constructor
 ·rintro ⟨r, _, h⟩
  obtain ⟨h0, h1, _⟩ := idxO_some h
  exact ⟨h0, h1⟩
 ·rintro ⟨h0, h1⟩
  obtain ⟨j, rfl⟩ : ∃ j : Nat, x = j := ⟨x.toNat, by omega⟩
  have hj : j < l.length := by omega
  have hs := hl _ (List.getElem_mem hj)
  have hrk := (ofRank_iff (m := m) (s := l[j]) (r := rankM m l[j])).1 rfl
  have hr0 : 0 ≤ rankM m l[j] ∧ rankM m l[j] < n := by
   have h4 := (slot_rank (m := m) (s := l[j])).2
   omega
  refine ⟨(rankM m l[j]).toNat, List.mem_range.2 (by omega), ?_⟩
  rw [Int.toNat_of_nonneg hr0.1, ← hrk]
  refine idxO_eq hj (List.getElem?_eq_getElem hj) (fun i hi e => ?_)
  have hil : i < l.length := by omega
  rw [List.getElem?_eq_getElem hil] at e
  have := (List.getElem_inj hn).1 (Option.some.inj e)
  omega
theorem orderM_length {m : MacV} {l : List Int} (hg : 0 ≤ m.gears) (hl : ∀ x ∈ l, 0 ≤ x ∧ x < 4 * m.gears) (hn : l.Nodup) : (orderM m l).length = l.length := by
 have hno := orderM_nodup m l
 refine Nat.le_antisymm ?_ ?_
 ·exact nodup_le l.length _ hno fun x hx => (orderM_mem hg hl hn).1 hx
 ·have h : ((List.range l.length).map fun (i : Nat) => (i : Int)).Nodup := by
   rw [List.nodup_iff_pairwise_ne, List.pairwise_map]
   refine (List.nodup_iff_pairwise_ne.1 List.nodup_range).imp fun {a b} hab e => hab (by omega)
  have := h.length_le_of_subset (l₂ := orderM m l) (fun x hx => by
   obtain ⟨i, hi, rfl⟩ := List.mem_map.1 hx
   exact (orderM_mem hg hl hn).2 ⟨by omega, by have := List.mem_range.1 hi; omega⟩)
  simpa using this
end Go.Proofs.YtglpfpdomnllkaaGreatDoor

namespace Go.Proofs.YtglpfpdomnllkaaGreatDoor
set_option maxRecDepth 100000
/-- the other carrier of a crossing. -/
def otherC (c : CrM) : Int := if c.over = c.going then c.under else c.over
theorem other_mkX (m : MacV) (g : Int) {a b : Int} (h : a ≠ b) : otherC (mkX m g a b) = b := by
 unfold otherC mkX
 cases fwdM m g
 ·simp
 ·simp; intro e; exact absurd e.symm h
/-- the carrier that goes to the right has the other one as its neighbour. -/
def nextC : List Int → List CrM → Prop
 | _, [] => True
 | r, c :: cs => (∃ i : Nat, idxO r c.going = some (i : Int) ∧ i + 1 < r.length ∧ atD 0 r ((i : Int) + 1) = otherC c) ∧ nextC (rowC r c) cs
theorem nextC_app : ∀ (xs ys : List CrM) (r : List Int), nextC r (xs ++ ys) ↔ nextC r xs ∧ nextC (xs.foldl rowC r) ys
 | [], ys, r => by simp [nextC]
 | c :: xs, ys, r => by
   rw [List.cons_append, nextC, nextC, List.foldl_cons, nextC_app xs ys (rowC r c), and_assoc]
theorem cross_next {m : MacV} {g : Int} {A C : List Int} {x y : Option Int} (hn : (A ++ [x, y].filterMap id ++ C).Nodup) :
  nextC (A ++ [x, y].filterMap id ++ C) (bothX (mkX m g) x y).toList := by
 match x, y with
 | none, none => trivial
 | none, some b => trivial
 | some a, none => trivial
 | some a, some b =>
  have e : (A ++ [some a, some b].filterMap id ++ C) = A ++ a :: b :: C := by simp
  rw [e] at hn ⊢
  have h1 := List.nodup_append.1 hn
  have ha : a ∉ A := fun hm => h1.2.2 a hm a (by simp) rfl
  have hab : a ≠ b := by
   have := (List.nodup_cons.1 h1.2.1).1
   intro e; subst e; exact this (by simp)
  refine ⟨⟨A.length, ?_, ?_, ?_⟩, trivial⟩
  ·rw [mkX_going]; exact idxO_mid ha
  ·simp
  ·rw [other_mkX m g hab]
   unfold atD
   have : ((A.length : Int) + 1).toNat = A.length + 1 := by omega
   rw [this, List.getD_eq_getElem?_getD, List.getElem?_append_right (by omega)]
   simp
theorem crossG_next (m : MacV) (l : List Int) (g : Int) {A C : List Int} (hn : (A ++ orderG m l g ++ C).Nodup) : nextC (A ++ orderG m l g ++ C) (crossG m l g) := by
 rw [crossG_eq, orderG_eq] at *
 rw [crossA_eq, crossA_eq, crossA_eq]
 generalize opG m l g 0 = o0 at *
 generalize opG m l g 1 = o1 at *
 generalize opG m l g 2 = o2 at *
 generalize opG m l g 3 = o3 at *
 have e1 : A ++ catO [o0, o1, o2, o3] ++ C = (A ++ catO [o0]) ++ [o1, o2].filterMap id ++ (catO [o3] ++ C) := by
  rw [show [o0, o1, o2, o3] = [o0] ++ ([o1, o2] ++ [o3]) from rfl, catO_app, catO_app]; simp only [catO, List.append_assoc]
 have e2 : (A ++ catO [o0]) ++ [o2, o1].filterMap id ++ (catO [o3] ++ C) = A ++ [o0, o2].filterMap id ++ (catO [o1, o3] ++ C) := by
  rw [show [o0, o2] = [o0] ++ [o2] from rfl, show [o2, o1] = [o2] ++ [o1] from rfl, show [o1, o3] = [o1] ++ [o3] from rfl, catO_app, ]
  simp only [catO, List.filterMap_append, List.append_assoc]
 have e3 : A ++ [o2, o0].filterMap id ++ (catO [o1, o3] ++ C) = (A ++ catO [o2, o0]) ++ [o1, o3].filterMap id ++ C := by
  simp only [catO, List.append_assoc]
 rw [e1] at hn ⊢
 have g1 := cross_next (m := m) (g := g) hn
 obtain ⟨u1, h1, n1⟩ := cross_swap hn (mkX_going m g) []
 have r1 := congrArg Prod.fst h1
 rw [fold_fst] at r1
 simp only [e2] at r1 n1
 have g2 := cross_next (m := m) (g := g) n1
 obtain ⟨u2, h2, n2⟩ := cross_swap n1 (mkX_going m g) []
 have r2 := congrArg Prod.fst h2
 rw [fold_fst] at r2
 simp only [e3] at r2 n2
 have g3 := cross_next (m := m) (g := g) n2
 rw [nextC_app, nextC_app, r1, r2]
 exact ⟨g1, g2, g3⟩
theorem crossL_next (m : MacV) (l : List Int) : ∀ (gs : List Int) (A : List Int), (A ++ gs.flatMap (orderG m l)).Nodup → nextC (A ++ gs.flatMap (orderG m l)) (gs.flatMap (crossG m l))
 | [], A, hn => trivial
 | g :: gs, A, hn => by
   simp only [List.flatMap_cons] at hn ⊢
   rw [← List.append_assoc] at hn ⊢
   rw [nextC_app]
   refine ⟨crossG_next m l g hn, ?_⟩
   obtain ⟨u1, h1, n1⟩ := crossG_row m l g hn []
   have r1 := congrArg Prod.fst h1
   rw [fold_fst] at r1
   rw [r1]
   exact crossL_next m l gs (A ++ afterG m l g) n1
theorem crossM_next (m : MacV) (l : List Int) : nextC (orderM m l) (crossM m l) := by
 have := crossL_next m l (gearsL m) [] (by simpa [orderM] using orderM_nodup m l)
 simpa [crossM, orderM] using this
theorem nextC_at {cs : List CrM} {r : List Int} (h : nextC r cs) {k : Nat} (hk : k < cs.length) : ∃ i : Nat, idxO ((cs.take k).foldl rowC r) (cs[k].going) = some (i : Int) ∧ i + 1 < ((cs.take k).foldl rowC r).length ∧ atD 0 ((cs.take k).foldl rowC r) ((i : Int) + 1) = otherC cs[k] := by
 have e : cs = cs.take k ++ cs[k] :: cs.drop (k + 1) := by
  conv => lhs; rw [← List.take_append_drop k cs]
  rw [List.drop_eq_getElem_cons hk]
 rw [e, nextC_app] at h
 exact h.2.1
/-- the state after some crossings of a step. -/
noncomputable def stC (m : MacV) (l : List Int) (k i : Nat) : List Int × List Int := ((crossM m (atL m l k)).take i).foldl weaveC (wvM m l k)
theorem stC_last (m : MacV) (l : List Int) (k : Nat) : stC m l k (crossM m (atL m l k)).length = wvM m l (k + 1) := by
 unfold stC
 rw [List.take_length]; rfl
theorem fold_post : ∀ (cs : List CrM) (st : List Int × List Int), ∃ v, (cs.foldl weaveC st).2 = st.2 ++ v
 | [], st => ⟨[], by simp⟩
 | c :: cs, st => by
   rw [List.foldl_cons]
   obtain ⟨v, hv⟩ := fold_post cs (weaveC st c)
   refine ⟨letterC st.1 c :: v, ?_⟩
   rw [hv]; simp [weaveC]
theorem wvM_post (m : MacV) (l : List Int) : ∀ {j k : Nat}, j ≤ k → ∃ v, (wvM m l k).2 = (wvM m l j).2 ++ v := by
 intro j k hjk
 induction hjk with
 | refl => exact ⟨[], by simp⟩
 | step _ ih =>
  rename_i q _
  obtain ⟨v, hv⟩ := ih
  obtain ⟨u, hu⟩ := fold_post (crossM m (atL m l q)) (wvM m l q)
  exact ⟨v ++ u, by rw [wvM, weaveS, hu, hv, List.append_assoc]⟩
theorem stC_post (m : MacV) (l : List Int) {k i N : Nat} (hk : k < N) : ∃ v, (wvM m l N).2 = (stC m l k i).2 ++ v := by
 obtain ⟨v, hv⟩ := wvM_post m l (j := k + 1) (k := N) hk
 obtain ⟨u, hu⟩ := fold_post ((crossM m (atL m l k)).drop i) (stC m l k i)
 refine ⟨u ++ v, ?_⟩
 have e : ((crossM m (atL m l k)).drop i).foldl weaveC (stC m l k i) = wvM m l (k + 1) := by
  unfold stC
  rw [← List.foldl_append, List.take_append_drop]; rfl
 rw [e] at hu
 rw [hv, hu, List.append_assoc]
/-- one letter of a word. -/
theorem stC_step {m : MacV} {l : List Int} (hr : m.ring = false) (h : LoadOk m l) {n : Int} (hm : meetsM m l n = false) {k i N : Nat} (hkn : (k : Int) ≤ n) (hk : k < N) (hi : i < (crossM m (atL m l k)).length) :
  ∃ p : Nat, p + 1 < (stC m l k i).1.length ∧ stC m l k (i + 1) = (swpL (stC m l k i).1 p, (stC m l k i).2 ++ [atD 0 (wvM m l N).2 (stC m l k i).2.length]) ∧
   (stC m l k i).2.length < (wvM m l N).2.length ∧
   ((atD 0 (wvM m l N).2 (stC m l k i).2.length = (p : Int) + 1 ∧ (atD ⟨0, 0, 0, 0⟩ (crossM m (atL m l k)) i).over = atD 0 (stC m l k i).1 p ∧ (atD ⟨0, 0, 0, 0⟩ (crossM m (atL m l k)) i).under = atD 0 (stC m l k i).1 ((p : Int) + 1)) ∨
    (atD 0 (wvM m l N).2 (stC m l k i).2.length = -(p : Int) - 1 ∧ (atD ⟨0, 0, 0, 0⟩ (crossM m (atL m l k)) i).over = atD 0 (stC m l k i).1 ((p : Int) + 1) ∧ (atD ⟨0, 0, 0, 0⟩ (crossM m (atL m l k)) i).under = atD 0 (stC m l k i).1 p)) := by
 obtain ⟨cs, hcs⟩ : ∃ cs, cs = crossM m (atL m l k) := ⟨_, rfl⟩
 have hnx := crossM_next m (atL m l k)
 rw [← wvM_row hr h.rng hm k hkn] at hnx
 have hok := crossM_ok m (atL m l k)
 rw [← hcs] at hi hnx hok
 obtain ⟨p, hp, hp1, hp2⟩ := nextC_at hnx hi
 have hst : (stC m l k i).1 = (cs.take i).foldl rowC (wvM m l k).1 := by
  unfold stC
  rw [← hcs]
  have : wvM m l k = ((wvM m l k).1, (wvM m l k).2) := rfl
  rw [this, fold_fst]
 rw [← hst] at hp hp1 hp2
 have ec : atD (⟨0, 0, 0, 0⟩ : CrM) cs i = cs[i] := by simp [atD, hi]
 have hstep : stC m l k (i + 1) = weaveC (stC m l k i) cs[i] := by
  unfold stC
  rw [← hcs, foldC_step hi, ec]
 rw [weaveC_at hp] at hstep
 obtain ⟨v, hv⟩ := stC_post m l (k := k) (i := i + 1) (N := N) hk
 rw [hstep] at hv
 dsimp only at hv
 have hat : atD 0 (wvM m l N).2 (stC m l k i).2.length = if cs[i].over = cs[i].going then (p : Int) + 1 else -(p : Int) - 1 := by
  unfold atD
  rw [hv]
  simp only [Int.toNat_natCast, List.getD_eq_getElem?_getD]
  rw [List.append_assoc, List.getElem?_append_right (Nat.le_refl _), Nat.sub_self]
  simp
 have hgo : atD 0 (stC m l k i).1 (p : Int) = cs[i].going := by
  obtain ⟨a, b, c⟩ := idxO_some hp
  unfold atD
  rw [List.getD_eq_getElem?_getD, c]; rfl
 refine ⟨p, hp1, by rw [hstep, hat], by rw [hv]; simp, ?_⟩
 rw [← hcs, ec, hat, hgo, hp2]
 rcases hok cs[i] (List.getElem_mem hi) with ⟨a, b⟩ | ⟨a, b⟩
 ·refine .inl ⟨if_pos a, a, ?_⟩
  unfold otherC; rw [if_pos a]
 ·refine .inr ⟨if_neg b, ?_, a⟩
  unfold otherC; rw [if_neg b]
end Go.Proofs.YtglpfpdomnllkaaGreatDoor

namespace Go.Proofs.YtglpfpdomnllkaaGreatDoor
open Go.RowKit
set_option maxHeartbeats 1000000
set_option maxRecDepth 100000

theorem decD_small {u : Nat} (h : u < 10) : Lib.decDigits u = [UInt8.ofNat (48 + u)] := by rw [Lib.decDigits, dif_pos h]
theorem decD_big {u : Nat} (h : ¬ u < 10) : Lib.decDigits u = Lib.decDigits (u / 10) ++ [UInt8.ofNat (48 + u % 10)] := by rw [Lib.decDigits, dif_neg h]
theorem itoaB_nat (u : Nat) : itoaB (u : Int) = ⟨(Lib.decDigits u).toArray⟩ := by unfold itoaB; rw [Lib.itoa_nonneg]
theorem digB {d : Nat} (h : d < 10) : (UInt8.ofNat (48 + d)).toNat = 48 + d := by
 rw [UInt8.toNat_ofNat']; omega
theorem decD_dig (u : Nat) : ∀ b ∈ Lib.decDigits u, 48 ≤ b.toNat ∧ b.toNat ≤ 57 := by
 induction u using Nat.strongRecOn with
 | _ u ih =>
  by_cases h : u < 10
  ·rw [decD_small h]; intro b hb
   simp only [List.mem_singleton] at hb
   subst hb; rw [digB h]; omega
  ·rw [decD_big h]; intro b hb
   rcases List.mem_append.1 hb with hb | hb
   ·exact ih (u / 10) (by omega) b hb
   ·simp only [List.mem_singleton] at hb
    subst hb; rw [digB (Nat.mod_lt _ (by decide))]; omega
theorem decD_pos (u : Nat) : 0 < (Lib.decDigits u).length := by
 by_cases h : u < 10
 ·rw [decD_small h]; simp
 ·rw [decD_big h]; simp
theorem decD_len : ∀ (k u : Nat), u < 10 ^ (k + 1) → (Lib.decDigits u).length ≤ k + 1
 | 0, u, h => by rw [decD_small (by simpa using h)]; simp
 | k + 1, u, h => by
   by_cases h1 : u < 10
   · rw [decD_small h1]; simp
   · rw [decD_big h1]
     have := decD_len k (u / 10) (by rw [Nat.pow_succ] at h; omega)
     simp; omega
/-- the number that digits give. -/
def valL (l : List UInt8) : Nat := l.foldl (fun n b => 10 * n + (b.toNat - 48)) 0
theorem valL_snoc (l : List UInt8) (b : UInt8) : valL (l ++ [b]) = 10 * valL l + (b.toNat - 48) := by simp [valL]
theorem valL_dec (u : Nat) : valL (Lib.decDigits u) = u := by
 induction u using Nat.strongRecOn with
 | _ u ih =>
  by_cases h : u < 10
  ·rw [decD_small h]
   show 10 * 0 + ((UInt8.ofNat (48 + u)).toNat - 48) = u
   rw [digB h]; omega
  ·rw [decD_big h, valL_snoc, ih (u / 10) (by omega), digB (Nat.mod_lt _ (by decide))]; omega
theorem valL_take {l : List UInt8} {k : Nat} (h : k < l.length) : valL (l.take (k + 1)) = 10 * valL (l.take k) + (l[k].toNat - 48) := by
 rw [List.take_succ_eq_append_getElem h, valL_snoc]
theorem valL_lt (l : List UInt8) (h : ∀ b ∈ l, 48 ≤ b.toNat ∧ b.toNat ≤ 57) : ∀ k, k ≤ l.length → valL (l.take k) < 10 ^ k
 | 0, _ => by simp [valL]
 | k + 1, hk => by
   rw [valL_take (by omega), Nat.pow_succ]
   have h1 := valL_lt l h k (by omega)
   have h2 := h l[k] (List.getElem_mem _)
   omega

def bT (l : List UInt8) : ByteArray := ⟨l.toArray⟩
theorem bT_size (l : List UInt8) : (bT l).size = l.length := rfl
theorem bT_app (l m : List UInt8) : bT l ++ bT m = bT (l ++ m) := by unfold bT; rw [ByteArray.mk_append_mk]; try simp
theorem bT_at {l : List UInt8} {k : Nat} (h : k < l.length) : byteAt (bT l) k = (l[k].toNat : Int) := by
 rw [byteAt_in (by rw [bT_size]; exact h), ByteArray.getElem_eq_getElem_data]
 simp [bT]
theorem bT_extract (l : List UInt8) (i j : Nat) : (bT l).extract i j = bT ((l.take j).drop i) := by
 unfold bT
 apply ByteArray.ext
 rw [ByteArray.data_extract]
 apply Array.ext'
 simp only [Array.toList_extract, List.extract_eq_take_drop]
 rw [List.drop_take]
theorem itoaB_bT (u : Nat) : itoaB (u : Int) = bT (Lib.decDigits u) := itoaB_nat u

def dig10 : ByteArray := ⟨#[48, 49, 50, 51, 52, 53, 54, 55, 56, 57]⟩
theorem dig10_at : ∀ d : Nat, d < 10 → dig10.extract d (d + 1) = bT [UInt8.ofNat (48 + d)] := by decide

/-- where a decimal text stands while it is made from behind. -/
def decInv (N c : Nat) (t : List UInt8) : Prop := (c = 0 ∧ t ≠ [] ∧ t = Lib.decDigits N) ∨ ((0 < c ∨ t = []) ∧ Lib.decDigits N = Lib.decDigits c ++ t)
theorem decInv_start (N : Nat) : decInv N N [] := .inr ⟨.inr rfl, by simp⟩
theorem decInv_len {N c : Nat} {t : List UInt8} (h : decInv N c t) : t.length ≤ (Lib.decDigits N).length := by
 rcases h with ⟨_, _, rfl⟩ | ⟨_, e⟩
 ·exact Nat.le_refl _
 ·rw [e]; simp
theorem decInv_step {N c : Nat} {t : List UInt8} (h : decInv N c t) (hc : 0 < c ∨ t = []) : decInv N (c / 10) (UInt8.ofNat (48 + c % 10) :: t) := by
 have e : Lib.decDigits N = Lib.decDigits c ++ t := by
  rcases h with ⟨a, b, _⟩ | ⟨_, e⟩
  ·rcases hc with h1 | h1
   ·omega
   ·exact absurd h1 b
  ·exact e
 by_cases h1 : c < 10
 ·refine .inl ⟨by omega, by simp, ?_⟩
  rw [e, decD_small h1, Nat.mod_eq_of_lt h1]; rfl
 ·refine .inr ⟨.inl (by omega), ?_⟩
  rw [e, decD_big h1, List.append_assoc]; rfl
theorem decInv_end {N : Nat} {t : List UInt8} (h : decInv N 0 t) (ht : t ≠ []) : bT t = itoaB (N : Int) := by
 rw [itoaB_bT]
 rcases h with ⟨_, _, rfl⟩ | ⟨h1, _⟩
 ·rfl
 ·rcases h1 with h1 | h1
  ·omega
  ·exact absurd h1 ht

def textQ (p q : Nat) : ByteArray := if q = 1 then itoaB (p : Int) else itoaB (p : Int) ++ ⟨#[47]⟩ ++ itoaB (q : Int)
def textQL (p q : Nat) : List UInt8 := if q = 1 then Lib.decDigits p else Lib.decDigits p ++ 47 :: Lib.decDigits q
theorem textQ_bT (p q : Nat) : textQ p q = bT (textQL p q) := by
 unfold textQ textQL
 split
 ·exact itoaB_bT p
 ·rw [itoaB_bT, itoaB_bT, show (⟨#[47]⟩ : ByteArray) = bT [47] from rfl, bT_app, bT_app]; simp
theorem textQ_one (p : Nat) : textQ p 1 = itoaB (p : Int) := by unfold textQ; rw [if_pos rfl]
theorem textQ_size {p q : Nat} (hp : p < 1000000000) (hq : q < 1000000000) : (textQ p q).size ≤ 19 ∧ 0 < (textQ p q).size := by
 have h1 := decD_len 8 p hp
 have h2 := decD_len 8 q hq
 have h3 := decD_pos p
 rw [textQ_bT, bT_size]
 unfold textQL
 split
 ·omega
 ·simp; omega
theorem itoaB_len {p : Nat} (hp : p < 1000000000) : (itoaB (p : Int)).size ≤ 9 ∧ 0 < (itoaB (p : Int)).size := by
 have h1 := decD_len 8 p hp
 have h3 := decD_pos p
 rw [itoaB_bT, bT_size]; omega
/-- the place of the slash, or the length. -/
structure SlashAt (s : ByteArray) (k : Nat) : Prop where
 le : k ≤ s.size
 no : ∀ j : Nat, j < k → byteAt s j ≠ 47
 yes : k < s.size → byteAt s k = 47
theorem textQ_pre {p q j : Nat} (h : j < (itoaB (p : Int)).size) : 48 ≤ byteAt (textQ p q) j ∧ byteAt (textQ p q) j ≤ 57 := by
 rw [itoaB_bT, bT_size] at h
 have hl : j < (textQL p q).length := by
  unfold textQL; split
  ·exact h
  ·simp; omega
 have e : (textQL p q)[j] = (Lib.decDigits p)[j] := by
  have : (textQL p q)[j]? = (Lib.decDigits p)[j]? := by
   unfold textQL; split
   ·rfl
   ·rw [List.getElem?_append_left h]
  rw [List.getElem?_eq_getElem hl, List.getElem?_eq_getElem h] at this
  exact Option.some.inj this
 rw [textQ_bT, bT_at hl, e]
 have := decD_dig p _ (List.getElem_mem h)
 omega
theorem textQ_slash (p q : Nat) : SlashAt (textQ p q) (itoaB (p : Int)).size := by
 refine ⟨?_, fun j hj => by have := (textQ_pre (q := q) hj).1; omega, ?_⟩
 ·rw [textQ_bT, bT_size, itoaB_bT, bT_size]; unfold textQL; split
  ·exact Nat.le_refl _
  ·simp
 ·intro h
  rw [textQ_bT, bT_size, itoaB_bT, bT_size] at h
  rw [textQ_bT, itoaB_bT, bT_size, bT_at h]
  have : (textQL p q)[(Lib.decDigits p).length] = 47 := by
   unfold textQL at h ⊢
   split at h
   ·omega
   ·rename_i h1
    simp [h1]
  rw [this]; rfl
theorem textQ_num (p q : Nat) : (textQ p q).extract 0 (itoaB (p : Int)).size = itoaB (p : Int) := by
 rw [textQ_bT, itoaB_bT, bT_size, bT_extract]
 unfold textQL
 split <;> simp
theorem textQ_den {p q : Nat} (h : q ≠ 1) : (textQ p q).extract ((itoaB (p : Int)).size + 1) (textQ p q).size = itoaB (q : Int) := by
 rw [textQ_bT, itoaB_bT, itoaB_bT, bT_size, bT_size, bT_extract, List.take_of_length_le (Nat.le_refl _)]
 unfold textQL
 rw [if_neg h, List.drop_append]
 simp [List.drop_of_length_le]
theorem textQ_lt {p q : Nat} : (itoaB (p : Int)).size < (textQ p q).size ↔ q ≠ 1 := by
 rw [textQ_bT, itoaB_bT, bT_size, bT_size]
 unfold textQL
 split
 ·simp [*]
 ·simp [*]
theorem textQ_sz {p q : Nat} (h : q ≠ 1) : (textQ p q).size = (itoaB (p : Int)).size + 1 + (itoaB (q : Int)).size := by
 rw [textQ_bT, itoaB_bT, itoaB_bT, bT_size, bT_size, bT_size]
 unfold textQL
 rw [if_neg h]; simp; omega
theorem itoaB_dig {p k : Nat} (h : k < (itoaB (p : Int)).size) : 48 ≤ byteAt (itoaB (p : Int)) k ∧ byteAt (itoaB (p : Int)) k ≤ 57 := by
 have := textQ_pre (p := p) (q := 1) h
 rwa [textQ_one] at this

/-- digits to the base 10^9 of a small number. -/
def wD (n : Nat) : List Int := if n = 0 then [] else [(n : Int)]
theorem wD_len (n : Nat) : (wD n).length ≤ 1 := by unfold wD; split <;> simp
theorem wD_pos {n : Nat} (h : 0 < n) : wD n = [(n : Int)] := by unfold wD; rw [if_neg (by omega)]
end Go.Proofs.YtglpfpdomnllkaaGreatDoor
