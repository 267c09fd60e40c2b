/- Contracts and plain facts that the claim uses (MemA TyA QA SlA PnA PrA SmA RE McA CyA RlB RG CiA EnP MaQ MbP MaD MaG MaJ RtP RtM MaS). Conditions: as each one states. -/
import Derived.WalkKit
import Derived.WalkSpells
import Derived.Maps.AppendAt
import Derived.Deep.Quiet
import Derived.Test.YtglpfpdomnllkaaGreatProg
import Derived.Maps.Own
import Derived.Maps.OwnSet
import Derived.Maps.Views
import Derived.WalkLawsBesides
import Derived.Laws.EntriesVeiled
import Derived.Deep.QuietTactic
import Derived.BigQuiet
import Derived.RangeFuncNested
import Derived.RangeFuncBound
import Derived.RangeFuncCalls
import Derived.RangeFuncLeaves
import Derived.RangeFuncFrom
import Derived.Shelf.Abstract
import Derived.Shelf.RegionOpen
import Derived.OwnWalkIn
import Derived.TacticsInMore
import Derived.LoopNIn
import Derived.LoopIn
import Derived.Deep.RegionHeld3
import Derived.Deep.AppendLies
import Derived.Deep.RegionHeldLaw
import Derived.Deep.RegionLaw
import Derived.Shelf.Strings.Trim
import Derived.Shelf.Strings.SlTrimAscii
import Derived.Shelf.Strings.Repeat
import Derived.Shelf.Strings.OnBuilder
import Derived.Shelf.Strconv.Itoa1
import Derived.Shelf.Strconv.Itoa3
import Derived.Shelf.LaysM
import Derived.Ground.Names2Prog
import Derived.Lib.OthersKept
import Derived.IntWalk
import Derived.Sort.LoopGhostIn
import Derived.StillTail
import Derived.Laws.Tables
import Derived.Laws.CopyOwn
import Derived.BigRegion
import Derived.ChangeAlike
import Derived.Shelf.Bits.Mul64
import Derived.Lib.ItoaLen
import Derived.Lib.ItoaMem
import Derived.Maps.RangeWalk
import Derived.Maps.Ext
import Derived.Test.YtglpfpdomnllkaaGreatXt01
import Derived.Test.YtglpfpdomnllkaaGreatXt02
import Derived.Test.YtglpfpdomnllkaaGreatXt03
import Derived.Test.YtglpfpdomnllkaaGreatXt04
import Derived.Test.YtglpfpdomnllkaaGreatXt05
import Derived.Test.YtglpfpdomnllkaaGreatXt06
import Derived.Test.YtglpfpdomnllkaaGreatXt07
set_option linter.all false

namespace Go.Proofs.YtglpfpdomnllkaaGreat
open Go.RowKit
section
variable {α : Type} {c : α → Value} {sz : Nat} {w w' : World} {a : Option Addr} {cap : Nat} {l : List α}
end

section
variable {P : Program} {ops : Array Oper} {rest : List Oper} {a : Act} {Q : Exit → Act → World → Prop} {α : Type} {c : α → Value} {sz bytes : Nat} {t e : TypeId} {z : Value} {ad : Option Addr} {cap : Nat} {l : List α} {k : Int}
 {d1 d2 : Tmp} {ty1 ty2 : TypeId} {p1 p2 : String} {s x : Operand} {af1 af2 : Array Edge}

theorem wpQ_in {C : World → Prop} {Qa : Act → Prop} {o : Oper} (v : Value) (hg : o.guard = none) (hr : ∀ w', C w' → (execOp a.eval o).run P w' = .ok (.value v) w') (h : wpQuiet P ops C Qa rest (a.put o.dst v)) : wpQuiet P ops C Qa (o :: rest) a := by
 unfold wpQuiet
 rw [if_pos (by simp [Region.wanted, hg])]
 refine ⟨v, fun w' hw' => ?_, h⟩
 unfold Oper.quietAt
 rw [hr w' hw']
 exact ⟨rfl, rfl⟩

end
end Go.Proofs.YtglpfpdomnllkaaGreat

namespace Go.Proofs.YtglpfpdomnllkaaGreat
open Go.RowKit

section
variable {P : Program} {α : Type} {c : α → Value} {sz bytes B : Nat} {t e : TypeId} {z v : Value} {w w' : World} {l : List α}

theorem wpList_store {ops : Array Oper} {rest : List Oper} {a : Act} {Q : Exit → Act → World → Prop} {d1 : Tmp} {ty1 ty2 : TypeId} {p1 p2 : String} {s x y : Operand} {af1 af2 : Array Edge} {ad : Option Addr} {cap : Nat} {k : Int} (u : α)
   (E : ETy P t e z 1 bytes) (hc1 : ∀ x, (c x).cells = #[c x]) (hsto : ∀ (w : World) (p : Addr), (w.cell? p).isSome = true → w.frozen? p = false → (Instr.storeAt e (.pointer (some p)) (c u)).run P w = .ok () (w.setCell p (c u)))
   (hs : a.eval s = .slice ad l.length cap) (hx : a.eval x = .int .i64 k) (hO : Own c 1 B e w (.slice ad l.length cap) l) (h0 : 0 ≤ k) (hk : k < l.length)
   (hd : ∀ p, (a.put (some d1) p).eval (.tmp d1) = p) (hy : ∀ p, (a.put (some d1) p).eval y = c u)
   (hK : ∀ p w', Own c 1 B e w' (.slice ad l.length cap) (l.set k.toNat u) → w.grownBy w' (Value.slice ad l.length cap).ownBlock → wpList P ops Q rest ((a.put (some d1) p).put none undef) w') :
   wpList P ops Q (⟨some d1, .indexAddr t s x, ty1, p1, af1, none⟩ :: ⟨none, .store e (.tmp d1) y, ty2, p2, af2, none⟩ :: rest) a w := by
 obtain ⟨g, rfl, hB, hcell, hfr, hO', hg⟩ := own_store hc1 hO u k h0 hk
 refine wpList_plain rfl fun K hK' => ?_
 have h1 := run_indexAt_sl (P := P) (a := ⟨g, 0, none⟩) (cap := cap) w E h0 hk
 unfold Oper.wp
 simp only [execOp, hs, hx]
 simp [h1, Result.andThen]
 refine hK' _ _ (wpList_plain rfl fun K2 hK2 => ?_)
 unfold Oper.wp
 simp only [execOp, hd, hy]
 have h2 := hsto w ⟨g, k.toNat, none⟩ hcell hfr
 rw [Addr.add_z, Nat.zero_add]
 simp [h2, Result.andThen]
 exact hK2 _ _ (hK _ _ hO' hg)

end
end Go.Proofs.YtglpfpdomnllkaaGreat

namespace Go.Proofs.YtglpfpdomnllkaaGreat
open Go.RowKit

theorem cBool1 (x : Bool) : (cBool x).cells = #[cBool x] := rfl
end Go.Proofs.YtglpfpdomnllkaaGreat

namespace Go.Proofs.YtglpfpdomnllkaaGreat
open Go.RowKit
end Go.Proofs.YtglpfpdomnllkaaGreat

namespace Go.Proofs.YtglpfpdomnllkaaGreat
open Go.RowKit
set_option maxRecDepth 100000

theorem wpList_make1 {P : Program} {α : Type} {c : α → Value} {bytes B : Nat} {t e : TypeId} {w : World} {ops : Array Oper} {rest : List Oper} {a : Act} {Q : Exit → Act → World → Prop} {d : Option Tmp} {ty : TypeId} {p : String} {x y : Operand} {af : Array Edge} (n : Nat) (z0 : α)
  (E : ETy P t e (c z0) 1 bytes) (hc : ∀ x, (c x).cells = #[c x]) (hx : a.eval x = .int .i64 n) (hy : a.eval y = .int .i64 n) (hb : bytes * n ≤ 281474976710656) (hm : n ≤ 9223372036854775807) (hB : B ≤ w.heap.size)
  (hK : ∀ w', Own c 1 B e w' (.slice (some ⟨w.heap.size, 0, none⟩) n n) (List.replicate n z0) → w.grownBy w' none → wpList P ops Q rest (a.put d (.slice (some ⟨w.heap.size, 0, none⟩) n n)) w') :
  wpList P ops Q (⟨d, .makeSlice t x y, ty, p, af, none⟩ :: rest) a w := by
 obtain ⟨i, hi, hz, hs, hby⟩ := info_parts E.inf
 refine wpList_make_full w rfl x y t rfl B e i (c z0) 1 E.und hi hz hs .i64 .i64 n n n hx hy rfl rfl (by rw [hby]; exact hb) (by unfold maxLen; omega) hB (fun w' ho hg => hK w' ⟨fun u => by rw [hc]; rfl, ?_⟩ hg)
 have e1 : (madeCells (c z0).cells (n * 1)).toList = List.replicate n (c z0) := by rw [hc, Nat.mul_one]; exact toList_madeCells_one _ _
 have e2 : ((List.replicate n z0).flatMap fun x => (c x).cells.toList) = List.replicate n (c z0) := by
  have aux : ∀ m : Nat, ((List.replicate m z0).flatMap fun x => (c x).cells.toList) = List.replicate m (c z0) := by
   intro m
   induction m with
   | zero => rfl
   | succ m ih => rw [List.replicate_succ, List.flatMap_cons, ih, hc, List.replicate_succ]; rfl
  exact aux n
 rw [e2, List.length_replicate, ← e1]
 exact ho

theorem own_newN {α : Type} {c : α → Value} {sz B : Nat} {e : TypeId} {w : World} (hc : ∀ x, (c x).cells.size = sz) (ys : List α) (n : Nat) (hn : n = ys.length) (hm : n ≤ maxLen) (cs : Array Value) {H : Nat} (hH : w.heap.size = H) (hB : B ≤ H) (h : cs.toList = ys.flatMap fun x => (c x).cells.toList) :
  Own c sz B e (w.alloc (.cells cs e)) (.slice (some ⟨H, 0, none⟩) n n) ys := by
 subst hH
 subst hn
 have hl : (ys.flatMap fun x => (c x).cells.toList).length = ys.length * sz := flat_len _ sz (fun x => by simpa using hc x) ys
 refine ⟨hc, hl, .inr ⟨w.heap.size, ys.length, cs, rfl, hB, heap_alloc_new w _, Nat.le_refl _, hm, ?_, ?_⟩⟩
 ·rw [← hl, ← h]; simp
 ·rw [← hl, ← h]; exact List.take_of_length_le (by simp)
theorem sto_bool (u : Bool) (w : World) (p : Addr) (h1 : (w.cell? p).isSome = true) (h2 : w.frozen? p = false) : (Instr.storeAt 4 (.pointer (some p)) (cBool u)).run Tryz.prog w = .ok () (w.setCell p (cBool u)) := by
 obtain ⟨v, hv⟩ := Option.isSome_iff_exists.1 h1
 simp [go_sem, hv, h2]
end Go.Proofs.YtglpfpdomnllkaaGreat

namespace Go.Proofs.YtglpfpdomnllkaaGreat
open Go.RowKit
section
variable {P : Program} {ops : Array Oper} {rest : List Oper} {a : Act} {α : Type} {c : α → Value} {sz bytes : Nat} {t e : TypeId} {z : Value} {ad : Option Addr} {cap : Nat} {l : List α} {k : Int}
 {d1 d2 : Tmp} {ty1 ty2 : TypeId} {p1 p2 : String} {s x : Operand} {af1 af2 : Array Edge} {Qa : Act → Prop} {w : World}
theorem wpQD_idx (d : α) (E : ETy P t e z sz bytes) (hF : Flat P e) (hc : ∀ x, (c x).cells = #[c x])
   (hs : a.eval s = .slice ad l.length cap) (hx : a.eval x = .int .i64 k) (hR : Reps c sz w ad cap l) (h0 : 0 ≤ k) (hlt : k < l.length) (hd : ∀ p, (a.put (some d1) p).eval (.tmp d1) = p)
   (hK : ∀ p, wpQuiet P ops (fun w' => ∃ n, w' = w.drewN n) Qa rest ((a.put (some d1) p).put (some d2) (c (atD d l k)))) :
   wpQuiet P ops (fun w' => ∃ n, w' = w.drewN n) Qa (⟨some d1, .indexAddr t s x, ty1, p1, af1, none⟩ :: ⟨some d2, .load e (.tmp d1), ty2, p2, af2, none⟩ :: rest) a := by
 have hkl : k.toNat < l.length := by omega
 obtain ⟨b, o, rfl, hcs⟩ := hR.cells E.pos d k.toNat hkl
 have hcell := hcs 0 (c (atD d l k)) (by rw [show l.getD k.toNat d = atD d l k from rfl, hc]; rfl)
 refine wpQ_in (.pointer (some ((⟨b, o, none⟩ : Addr).add (k.toNat * sz)))) rfl (fun w' hw' => ?_) (wpQ_in (c (atD d l k)) rfl (fun w' hw' => ?_) (hK _))
 ·have h1 := run_indexAt_sl (P := P) (a := ⟨b, o, none⟩) (cap := cap) w' E h0 hlt
  simp [execOp, hs, hx, h1, Result.andThen]
 ·have h2 := run_loadAt_cell (P := P) w' (a := (⟨b, o, none⟩ : Addr).add (k.toNat * sz)) (v := c (atD d l k)) hF (by
   rw [Addr.add_z]
   have hb := below_drewN hw'
   exact (hb.cell (World.block_lt_of_cell? w _ hcell)).trans hcell)
  simp [execOp, hd, h2, Result.andThen]
end
end Go.Proofs.YtglpfpdomnllkaaGreat

namespace Go.Proofs.YtglpfpdomnllkaaGreat
open Go.RowKit
section
variable {P : Program} {ops : Array Oper} {rest : List Oper} {a : Act} {α : Type} {c : α → Value} {sz bytes n : Nat} {t e : TypeId} {z : Value} {ad : Option Addr} {cap : Nat} {l : List α} {k : Int}
 {d1 d2 : Tmp} {ty1 ty2 : TypeId} {p1 p2 : String} {s x : Operand} {af1 af2 : Array Edge} {g1 g2 : Option (Nat × Bool)} {Qa : Act → Prop} {w : World}
end
end Go.Proofs.YtglpfpdomnllkaaGreat

namespace Go.Proofs.YtglpfpdomnllkaaGreat
open Go.RowKit
set_option maxHeartbeats 1000000
set_option maxRecDepth 100000

end Go.Proofs.YtglpfpdomnllkaaGreat

namespace Go.Proofs.YtglpfpdomnllkaaGreat
open Go.RowKit
set_option maxRecDepth 100000

section
variable {B : Nat} {w0 w w' : World} {L K : List Pc}
end

section
variable {B : Nat} {w0 w w' : World} {L : List Pc} {α : Type} {c : α → Value} {sz : Nat} {e : TypeId} {v : Value} {l : List α}
end

section
variable {P : Program} {ops : Array Oper} {rest : List Oper} {a : Act} {Q : Exit → Act → World → Prop} {α : Type} {c : α → Value} {sz bytes B : Nat} {t e : TypeId} {z v : Value} {w0 w : World} {L : List Pc} {l : List α}
theorem wpList_appL {d : Option Tmp} {ty : TypeId} {p : String} {s x : Operand} {af : Array Edge} {ad : Option Addr} {n cap : Nat} {ys : List α} (i : Nat) (E : ETy P t e z sz bytes)
   (hs : a.eval s = v) (hx : a.eval x = .slice ad n cap) (hS : SL B w0 w L) (hi : L[i]? = some (pOwn c sz e v l)) (hR : Reps c sz w ad cap ys) (hn : n = ys.length) (h1 : ∀ x, ∀ u ∈ (c x).cells.toList, u.oneCell' = true)
   (hb : (l.length + ys.length) * bytes ≤ 140737488355328) (hm : l.length + ys.length ≤ 9223372036854775807)
   (hK : ∀ v' w', SL B w0 w' (L.set i (pOwn c sz e v' (l ++ ys))) → wpList P ops Q rest (a.put d v') w') :
   wpList P ops Q (⟨d, .call { callee := .builtin .append, args := #[s, x], argTypes := #[t, t] }, ty, p, af, none⟩ :: rest) a w := by
 subst hn
 obtain ⟨b, ⟨h2, h3⟩, h4, h5⟩ := hS.upd i hi
 refine wpList_app (l := l) (ys := ys) (ad := ad) (cap := cap) E hs hx h2 hR h1 hb (Nat.zero_le _) hm ?_
 intro v' w' ho hg hat
 refine hK v' w' (h5 w' _ v'.ownBlock (h3 ▸ hg) ⟨ho, rfl⟩ ?_)
 rcases hat with hat | hat
 ·exact .inl (hat.trans h3)
 ·exact .inr (fun k hk => by rw [hat] at hk; cases hk; exact Nat.le_refl _)
theorem wpList_storeL {d1 : Tmp} {ty1 ty2 : TypeId} {p1 p2 : String} {s x y : Operand} {af1 af2 : Array Edge} {ad : Option Addr} {n cap : Nat} {k : Int} {u : α} (i : Nat)
   (E : ETy P t e z 1 bytes) (hc1 : ∀ x, (c x).cells = #[c x]) (hsto : ∀ (u : α) (w : World) (p : Addr), (w.cell? p).isSome = true → w.frozen? p = false → (Instr.storeAt e (.pointer (some p)) (c u)).run P w = .ok () (w.setCell p (c u)))
   (hs : a.eval s = .slice ad n cap) (hx : a.eval x = .int .i64 k) (hS : SL B w0 w L) (hi : L[i]? = some (pOwn c 1 e (.slice ad n cap) l)) (h0 : 0 ≤ k) (hk : k < l.length)
   (hd : ∀ p, (a.put (some d1) p).eval (.tmp d1) = p) (hy : ∀ p, (a.put (some d1) p).eval y = c u)
   (hK : ∀ p w', SL B w0 w' (L.set i (pOwn c 1 e (.slice ad n cap) (l.set k.toNat u))) → wpList P ops Q rest ((a.put (some d1) p).put none undef) w') :
   wpList P ops Q (⟨some d1, .indexAddr t s x, ty1, p1, af1, none⟩ :: ⟨none, .store e (.tmp d1) y, ty2, p2, af2, none⟩ :: rest) a w := by
 obtain ⟨a', cap', e1, _⟩ := hS.slice i hi
 simp only [Value.slice.injEq] at e1
 obtain ⟨rfl, rfl, rfl⟩ := e1
 obtain ⟨b, ⟨h2, h3⟩, h4, h5⟩ := hS.upd i hi
 refine wpList_store (l := l) (B := 0) u E hc1 (hsto u) hs hx h2 h0 hk hd hy (fun p w' ho hg => hK p w' (h5 w' _ b (h3 ▸ hg) ⟨ho, h3⟩ (.inl rfl)))
theorem wpList_makeL {d : Option Tmp} {ty : TypeId} {p : String} {x y : Operand} {af : Array Edge} (n : Nat) (z0 : α)
  (E : ETy P t e (c z0) 1 bytes) (hc : ∀ x, (c x).cells = #[c x]) (hx : a.eval x = .int .i64 n) (hy : a.eval y = .int .i64 n) (hb : bytes * n ≤ 281474976710656) (hm : n ≤ 9223372036854775807) (hS : SL B w0 w L)
  (hK : ∀ ad w', SL B w0 w' (pOwn c 1 e (.slice ad n n) (List.replicate n z0) :: L) → wpList P ops Q rest (a.put d (.slice ad n n)) w') :
  wpList P ops Q (⟨d, .makeSlice t x y, ty, p, af, none⟩ :: rest) a w := by
 refine wpList_make1 n z0 E hc hx hy hb hm (Nat.le_refl _) (fun w' ho hg => hK _ w' ?_)
 exact hS.new _ (b := some w.heap.size) hg ⟨ho.mono (Nat.zero_le _), rfl⟩ (fun k e => by cases e; exact Nat.le_refl _)
end
section
variable {ops : Array Oper} {rest : List Oper} {a : Act} {Q : Exit → Act → World → Prop} {d : Option Tmp} {ty : TypeId} {p : String} {m x y : Operand} {af : Array Edge} {b n B : Nat} {k : Int} {w0 w : World} {L : List Pc}
end
end Go.Proofs.YtglpfpdomnllkaaGreat

namespace Go.Proofs.YtglpfpdomnllkaaGreat
open Go.RowKit
set_option maxRecDepth 100000

section
variable {B : Nat} {w0 w w' : World} {L K : List Pc}
theorem SL.comm (h : SL B w0 w (K ++ L)) : SL B w0 w (L ++ K) := by
 obtain ⟨hb, hz, f, h1, h2⟩ := h
 refine ⟨hb, hz, fun i => if i < L.length then f (K.length + i) else f (i - L.length), ?_, ?_⟩
 ·intro i p hi
  by_cases e : i < L.length
  ·simp only [if_pos e]
   rw [List.getElem?_append_left e] at hi
   exact h1 _ p (by rw [List.getElem?_append_right (by omega)]; simpa using hi)
  ·simp only [if_neg e]
   rw [List.getElem?_append_right (by omega)] at hi
   have hl := (List.getElem?_eq_some_iff.1 hi).1
   exact h1 _ p (by rw [List.getElem?_append_left hl]; exact hi)
 ·intro i j k hij hj hi hjk
  rw [List.length_append] at hj
  by_cases e1 : i < L.length
  ·simp only [if_pos e1] at hi
   by_cases e2 : j < L.length
   ·simp only [if_pos e2] at hjk
    exact h2 _ _ k (by omega) (by rw [List.length_append]; omega) hi hjk
   ·simp only [if_neg e2] at hjk
    exact h2 _ _ k (show j - L.length < K.length + i by omega) (by rw [List.length_append]; omega) hjk hi
  ·have e2 : ¬ j < L.length := by omega
   simp only [if_neg e1] at hi
   simp only [if_neg e2] at hjk
   exact h2 _ _ k (by omega) (by rw [List.length_append]; omega) hi hjk

end

section
variable {α : Type} {c : α → Value} {sz : Nat} {e : TypeId} {v : Value} {l : List α} {B : Nat} {W0 w : World} {L : List Pc}
end
theorem SL.leave' {P : Program} {F : Fence} {n B : Nat} {fn : Func} {tmps : Array Value} {R : Ending → World → Prop} {w0 w : World} {L : List Pc} {Ds : List Nat} (h : SL B w0 w (L ++ Ds.map pMark)) (hR : ∀ W, SL B w0 W L → ∃ v, (results fn tmps).run P W = .ok v W ∧ R (.returned v) W) :
  LeavesInM F n P fn tmps R (Ds.map markOf) .returning w := SL.leave hR Ds w h.comm
end Go.Proofs.YtglpfpdomnllkaaGreat

namespace Go.Proofs.YtglpfpdomnllkaaGreat
open Go.RowKit
set_option maxHeartbeats 400000
set_option maxRecDepth 100000

theorem gcd_step {a b : Int} (ha : 0 ≤ a) (hb : 0 ≤ b) : Int.gcd b (a % b) = Int.gcd a b := by
 obtain ⟨m, rfl⟩ := Int.eq_ofNat_of_zero_le ha
 obtain ⟨n, rfl⟩ := Int.eq_ofNat_of_zero_le hb
 show Nat.gcd n (m % n) = Nat.gcd m n
 rw [Nat.gcd_comm m n, Nat.gcd_rec n m, Nat.gcd_comm]
def absI (n : Int) : Int := if 0 ≤ n then n else -n
end Go.Proofs.YtglpfpdomnllkaaGreat

namespace Go.Proofs.YtglpfpdomnllkaaGreat
open Go.RowKit
set_option maxHeartbeats 400000
set_option maxRecDepth 100000

end Go.Proofs.YtglpfpdomnllkaaGreat

namespace Go.Proofs.YtglpfpdomnllkaaGreat
open Go.RowKit
set_option maxHeartbeats 1000000
set_option maxRecDepth 100000

/-- two neighbours exchanged. -/
def swapL (st : List Int) (k : Int) : List Int := (st.set (k - 1).toNat (atD 0 st k)).set k.toNat (atD 0 st (k - 1))
def crossOf (st : List Int) (x : Int) : Int × Int := if x < 0 then (atD 0 st (absI x), atD 0 st (absI x - 1)) else (atD 0 st (absI x - 1), atD 0 st (absI x))
end Go.Proofs.YtglpfpdomnllkaaGreat

namespace Go.Proofs.YtglpfpdomnllkaaGreat
open Go.RowKit
set_option maxHeartbeats 1000000
set_option maxRecDepth 100000

def rowGo : List Int → List (Int × Int) → List Int → List Int × List (Int × Int)
 | st, cr, [] => (st, cr)
 | st, cr, x :: r => rowGo (swapL st (absI x)) (cr ++ [crossOf st x]) r
def startL (n : Nat) : List Int := (List.range n).map fun (i : Nat) => (i : Int) + 1
theorem startL_len (n : Nat) : (startL n).length = n := by simp [startL]
def rowL (n : Nat) (ws : List Int) : List Int × List (Int × Int) := rowGo (startL n) [] ws
theorem swapL_len (st : List Int) (k : Int) : (swapL st k).length = st.length := by simp [swapL]
end Go.Proofs.YtglpfpdomnllkaaGreat

namespace Go.Proofs.YtglpfpdomnllkaaGreat
open Go.RowKit
set_option maxHeartbeats 400000
set_option maxRecDepth 100000

theorem bwhen_any (b : Bool) (e : Int) (w : World) :
  Calls Tryz.prog 91 #[.bool b, .int .i64 e] w fun r w' => r = .returned (.int .i64 (if b then e else 0)) ∧ w = w' := by
 cases b
 ·go_enter Tryz.func91, Tryz.ntmps91
  go_wp2
  go_ret
  exact ⟨rfl, rfl⟩
 ·go_enter Tryz.func91, Tryz.ntmps91
  go_wp2
  go_ret
  exact ⟨rfl, rfl⟩

theorem bfirst_any (a : Option Addr) (cap : Nat) (l : List Int) (w : World) (h : Ints w a cap l) :
  Calls Tryz.prog 90 #[.slice a l.length cap] w fun r w' => r = .returned (.int .i64 (firstE l)) ∧ w = w' := by
 have hcap := h.le
 have hm := h.max
 go_enter Tryz.func90, Tryz.ntmps90
 go_wp2
 go_loop [7] (fun i => ∃ k : Nat, k ≤ l.length ∧ i = .int .i64 k ∧ firstE (l.drop k) = firstE l) (fun i => l.length - (intOf i).toNat)
 case atStart => exact ⟨0, by omega, rfl, by simp⟩
 case round =>
  obtain ⟨k, hk, rfl, hf⟩ := hrel
  by_cases hlt : k < l.length
  ·have hs := firstE_drop l k hlt
   have HF := hid hf; clear hf
   have HS := hid hs; clear hs
   go_wp2_with (with_reducible refine wpList_idx _ 0 E_errs F_err cInt1 wU wU (h) oD oD (fun _ => wU) (fun _ => ?_))
   ·go_ret
    have h1 : (atD 0 l k != 0) = true := by assumption
    refine ⟨?_, rfl⟩
    have := HS.out; rw [HF.out, h1, if_pos rfl] at this; rw [this]; rfl
   ·go_round
    case rel =>
     have h1 : (atD 0 l k != 0) = false := by assumption
     refine ⟨k + 1, by omega, by go_num, ?_⟩
     have := HS.out; rw [HF.out, h1] at this; exact this.symm
    case measure => simp [intOf]; omega
  ·have : k = l.length := by omega
   subst this
   rw [firstE_end] at hf
   have HF := hid hf; clear hf
   go_wp2
   go_ret
   exact ⟨by rw [← HF.out]; rfl, rfl⟩

def strandsE (n : Int) : Int := if n < 1 ∨ 12 < n then 3 else 0
theorem checkStrands_any (n : Int) (w : World) :
  Calls Tryz.prog 118 #[.int .i64 n] w fun r w' => r = .returned (.int .i64 (strandsE n)) ∧ w = w' := by
 by_cases h1 : n < 1
 ·have e : strandsE n = 3 := by unfold strandsE; rw [if_pos (by omega)]
  rw [e]
  go_enter Tryz.func118, Tryz.ntmps118
  go_wp2_with (go_at_call 91; refine (bwhen_any _ _ _).mono ?_; rintro e w' ⟨rfl, rfl⟩)
  go_ret
  exact ⟨rfl, rfl⟩
 by_cases h2 : 12 < n
 ·have e : strandsE n = 3 := by unfold strandsE; rw [if_pos (by omega)]
  rw [e]
  go_enter Tryz.func118, Tryz.ntmps118
  go_wp2_with (go_at_call 91; refine (bwhen_any _ _ _).mono ?_; rintro e w' ⟨rfl, rfl⟩)
  go_ret
  exact ⟨rfl, rfl⟩
 ·have e : strandsE n = 0 := by unfold strandsE; rw [if_neg (by omega)]
  rw [e]
  go_enter Tryz.func118, Tryz.ntmps118
  go_wp2_with (go_at_call 91; refine (bwhen_any _ _ _).mono ?_; rintro e w' ⟨rfl, rfl⟩)
  go_ret
  exact ⟨rfl, rfl⟩

def outB (n x : Int) : Bool := x == 0 || decide (x ≤ -n) || decide (n ≤ x)
theorem outside_any (n x : Int) (w : World) (h1 : 1 ≤ n) (h2 : n ≤ 12) :
  Calls Tryz.prog 121 #[.int .i64 n, .int .i64 x] w fun r w' => r = .returned (.bool (outB n x)) ∧ w = w' := by
 by_cases c1 : x = 0
 ·have e : outB n x = true := by simp [outB, c1]
  have hb : (x == 0) = true := by simpa using c1
  rw [e]
  clear c1 e
  go_enter Tryz.func121, Tryz.ntmps121
  go_wp2
  go_ret
  exact ⟨rfl, rfl⟩
 have hb : (x == 0) = false := by simpa using c1
 by_cases c2 : x ≤ -n
 ·have e : outB n x = true := by simp [outB, c2]
  rw [e]
  go_enter Tryz.func121, Tryz.ntmps121
  go_wp2
  go_ret
  exact ⟨rfl, rfl⟩
 by_cases c3 : n ≤ x
 ·have e : outB n x = true := by simp [outB, c3]
  rw [e]
  go_enter Tryz.func121, Tryz.ntmps121
  go_wp2
  go_ret
  exact ⟨rfl, rfl⟩
 ·have e : outB n x = false := by simp [outB, c1, c2, c3]
  rw [e]
  go_enter Tryz.func121, Tryz.ntmps121
  go_wp2
  go_ret
  exact ⟨rfl, rfl⟩

theorem outsideC_any (n x : Int) (b : Nat) (w : World) (h1 : 1 ≤ n) (h2 : n ≤ 12) (hc : w.cell? ⟨b, 0, none⟩ = some (.int .i64 n)) :
  Calls Tryz.prog 120 #[.int .i64 x, .pointer (some ⟨b, 0, none⟩)] w fun r w' => r = .returned (.bool (outB n x)) ∧ w = w' := by
 go_enter Tryz.func120, Tryz.ntmps120
 go_wp2_with (go_at_call 121; refine (outside_any n x _ h1 h2).mono ?_; rintro e w' ⟨rfl, rfl⟩)
 go_ret
 exact ⟨rfl, rfl⟩

/-- the place of the first letter from the k-th on that is outside. -/
def idxGo (n : Int) (l : List Int) : Nat → Nat → Int
 | _, 0 => -1
 | k, f + 1 => if outB n (atD 0 l k) then k else idxGo n l (k + 1) f
theorem idxO_any (n : Int) (b : Nat) (a : Option Addr) (cap : Nat) (l : List Int) (w : World) (hS : Ints w a cap l) (h1 : 1 ≤ n) (h2 : n ≤ 12) (hc : w.cell? ⟨b, 0, none⟩ = some (.int .i64 n)) :
  Calls Tryz.prog 163 #[.slice a l.length cap, .func (.func 120) #[] #[.pointer (some ⟨b, 0, none⟩)]] w fun r w' => r = .returned (.int .i64 (idxGo n l 0 l.length)) ∧ w = w' := by
 have hcap := hS.le
 have hm := hS.max
 go_enter Tryz.func163, Tryz.ntmps163
 go_wp2_with fail
 go_loop [8, 5] (fun i _ => ∃ k : Nat, k ≤ l.length ∧ i = .int .i64 k ∧ idxGo n l k (l.length - k) = idxGo n l 0 l.length) (fun i _ => l.length - (intOf i).toNat)
 case atStart => exact ⟨0, by omega, rfl, rfl⟩
 case round =>
  obtain ⟨k, hk, rfl, hf⟩ := hrel
  by_cases hlt : k < l.length
  ·have hs : idxGo n l k (l.length - k) = if outB n (atD 0 l k) then (k : Int) else idxGo n l (k + 1) (l.length - (k + 1)) := by
    rw [show l.length - k = (l.length - (k + 1)) + 1 by omega, idxGo]
   rw [hf] at hs
   have HS := hid hs; clear hs hf
   obtain ⟨q, hq⟩ : ∃ q, q = outB n (atD 0 l k) := ⟨_, rfl⟩
   have hc := outsideC_any n (atD 0 l k) b w h1 h2 hc
   rw [← hq] at hc
   have HQ := hid hq; clear hq
   have HC := hid hc; clear hc
   cases q
   ·go_wp2_with (first | (with_reducible refine wpList_idx _ 0 E_ints F_int cInt1 wU wU (hS) oD oD (fun _ => wU) (fun _ => ?_)) | (go_at_call 120; refine HC.out.mono ?_; rintro e w' ⟨rfl, rfl⟩))
    have h := HS.out
    rw [← HQ.out] at h
    refine ⟨⟨k + 1, by omega, by go_num, h.symm⟩, by simp [intOf]; omega⟩
   ·go_wp2_with (first | (with_reducible refine wpList_idx _ 0 E_ints F_int cInt1 wU wU (hS) oD oD (fun _ => wU) (fun _ => ?_)) | (go_at_call 120; refine HC.out.mono ?_; rintro e w' ⟨rfl, rfl⟩))
    have h := HS.out
    rw [← HQ.out] at h
    go_ret
    exact ⟨by rw [h]; rfl, rfl⟩
  ·have : k = l.length := by omega
   subst this
   rw [Nat.sub_self, idxGo] at hf
   have HF := hid hf; clear hf
   go_wp2_with fail
   go_ret
   exact ⟨by rw [← HF.out]; rfl, rfl⟩

theorem idxGo_neg (n : Int) (l : List Int) : ∀ (f k : Nat), (0 ≤ idxGo n l k f) ↔ ∃ j, k ≤ j ∧ j < k + f ∧ outB n (atD 0 l j) = true
 | 0, k => by
   simp only [idxGo]
   constructor
   · intro h; omega
   · rintro ⟨j, h1, h2, _⟩; omega
 | f + 1, k => by
   rw [idxGo]
   by_cases h : outB n (atD 0 l k) = true
   · rw [if_pos h]
     exact ⟨fun _ => ⟨k, by omega, by omega, h⟩, fun _ => by omega⟩
   · rw [if_neg h, idxGo_neg n l f (k + 1)]
     constructor
     · rintro ⟨j, h1, h2, h3⟩; exact ⟨j, by omega, by omega, h3⟩
     · rintro ⟨j, h1, h2, h3⟩
       rcases Nat.eq_or_lt_of_le h1 with e | e
       · subst e; exact absurd h3 h
       · exact ⟨j, by omega, by omega, h3⟩

theorem containsO_any (n : Int) (b : Nat) (a : Option Addr) (cap : Nat) (l : List Int) (w : World) (hS : Ints w a cap l) (h1 : 1 ≤ n) (h2 : n ≤ 12) (hc : w.cell? ⟨b, 0, none⟩ = some (.int .i64 n)) :
  Calls Tryz.prog 119 #[.slice a l.length cap, .func (.func 120) #[] #[.pointer (some ⟨b, 0, none⟩)]] w fun r w' => r = .returned (.bool (decide (0 ≤ idxGo n l 0 l.length))) ∧ w = w' := by
 go_enter Tryz.func119, Tryz.ntmps119
 go_wp2_with (go_at_call 163; refine (idxO_any n b a cap l _ hS h1 h2 hc).mono ?_; rintro e w' ⟨rfl, rfl⟩)
 go_ret
 exact ⟨rfl, rfl⟩

def wordE (n : Int) (l : List Int) : Int := if strandsE n ≠ 0 then 3 else if 200 < l.length then 5 else if 0 ≤ idxGo n l 0 l.length then 3 else 0
theorem CheckWord_any (n : Int) (a : Option Addr) (cap : Nat) (l : List Int) (w : World) (hS : Ints w a cap l) (hsm : l.length ≤ 1048576) :
  Calls Tryz.prog 68 #[.int .i64 n, .slice a l.length cap] w fun r w' => r = .returned (.int .i64 (wordE n l)) ∧ Below w.heap.size w w' := by
 have hcap := hS.le
 have hm := hS.max
 have hk := fun w => checkStrands_any n w
 by_cases h : strandsE n = 0
 ·have hn : 1 ≤ n ∧ n ≤ 12 := by unfold strandsE at h; split at h <;> omega
  rw [h] at hk
  have HK := hid hk; clear hk
  by_cases h2 : 200 < l.length
  ·have e : wordE n l = 5 := by simp [wordE, h, h2]
   rw [e]
   clear h e
   go_enter Tryz.func68, Tryz.ntmps68
   go_wp2_with (first | (go_at_call 118; refine (HK.out _).mono ?_; rintro e w' ⟨rfl, rfl⟩) | (go_at_call 91; refine (bwhen_any _ _ _).mono ?_; rintro e w' ⟨rfl, rfl⟩) | (go_at_call 90; refine (bfirst_any _ _ [_, _] _ (reps_newN cIntS [_, _] 2 rfl (by decide) _ _ (by simp) rfl)).mono ?_; rintro e w' ⟨rfl, rfl⟩))
   go_ret
   exact ⟨rfl, bal (bal (Below.refl _ _) _) _⟩
  ·have e : wordE n l = if 0 ≤ idxGo n l 0 l.length then 3 else 0 := by simp [wordE, h, h2]
   have hct := fun (w : World) (b : Nat) hS hc => containsO_any n b a cap l w hS hn.1 hn.2 hc
   obtain ⟨q, hq⟩ : ∃ q, q = decide (0 ≤ idxGo n l 0 l.length) := ⟨_, rfl⟩
   rw [← hq] at hct
   have e2 : wordE n l = if q then 3 else 0 := by rw [e, hq]; simp
   rw [e2]
   have HCT := hid hct
   clear h e e2 hq hct
   cases q
   all_goals
    go_enter Tryz.func68, Tryz.ntmps68
    go_wp2_with (first | (go_at_call 118; refine (HK.out _).mono ?_; rintro e w' ⟨rfl, rfl⟩) | (go_at_call 91; refine (bwhen_any _ _ _).mono ?_; rintro e w' ⟨rfl, rfl⟩) | (go_at_call 90; refine (bfirst_any _ _ [_, _] _ (reps_newN cIntS [_, _] 2 rfl (by decide) _ _ (by simp) rfl)).mono ?_; rintro e w' ⟨rfl, rfl⟩) | (go_at_call 119; refine (HCT.out _ _ ((hS.alloc _).alloc _) (by simp [go_sem])).mono ?_; rintro e w' ⟨rfl, rfl⟩))
    go_ret
    exact ⟨rfl, bal (bal (Below.refl _ _) _) _⟩
 ·have h3 : strandsE n = 3 := by unfold strandsE at *; split <;> simp_all
  have e : wordE n l = 3 := by simp [wordE, h3]
  rw [e]
  rw [h3] at hk
  have HK := hid hk; clear hk h h3 e
  go_enter Tryz.func68, Tryz.ntmps68
  go_wp2_with (first | (go_at_call 118; refine (HK.out _).mono ?_; rintro e w' ⟨rfl, rfl⟩) | (go_at_call 91; refine (bwhen_any _ _ _).mono ?_; rintro e w' ⟨rfl, rfl⟩) | (go_at_call 90; refine (bfirst_any _ _ [_, _] _ (reps_newN cIntS [_, _] 2 rfl (by decide) _ _ (by simp) rfl)).mono ?_; rintro e w' ⟨rfl, rfl⟩))
  all_goals
   go_ret
   exact ⟨rfl, bal (bal (Below.refl _ _) _) _⟩
end Go.Proofs.YtglpfpdomnllkaaGreat

namespace Go.Proofs.YtglpfpdomnllkaaGreat
open Go.RowKit
set_option maxHeartbeats 1000000
set_option maxRecDepth 100000

theorem drop_step {α : Type} [DecidableEq α] (d : α) (l m : List α) (h : l.length = m.length) (k : Nat) (hk : k < l.length) : decide (l.drop k = m.drop k) = (decide (atD d l k = atD d m k) && decide (l.drop (k + 1) = m.drop (k + 1))) := by
 have e2 : atD d l k = l[k] := by simp [atD, hk]
 have e3 : atD d m k = m[k] := by simp [atD, h ▸ hk]
 have hk2 : k < m.length := h ▸ hk
 rw [List.drop_eq_getElem_cons hk, List.drop_eq_getElem_cons hk2, e2, e3]
 rw [Bool.eq_iff_iff, Bool.and_eq_true, decide_eq_true_iff, decide_eq_true_iff, decide_eq_true_iff, List.cons.injEq]

theorem SameInts_any (a a2 : Option Addr) (cap cap2 : Nat) (l m : List Int) (w : World) (hS : Ints w a cap l) (hM : Ints w a2 cap2 m) (hl : l.length ≤ 1048576) :
  Calls Tryz.prog 19 #[.slice a l.length cap, .slice a2 m.length cap2] w fun r w' => r = .returned (.bool (decide (l = m))) ∧ Below w.heap.size w w' := by
 have hcap := hS.le
 have hm := hS.max
 have hcap2 := hM.le
 have hm2 := hM.max
 by_cases hlen : l.length = m.length
 ·have HL := hid hlen
  go_enter Tryz.func19, Tryz.ntmps19
  go_wp2_with fail
  go_loopw [5] (fun i wr => ∃ k : Nat, k ≤ l.length ∧ i = .int .i64 k ∧ decide (l.drop k = m.drop k) = decide (l = m) ∧ Below w.heap.size w wr) (fun i _ => l.length - (intOf i).toNat)
  case atStart => exact ⟨0, by omega, rfl, rfl, Below.refl _ _⟩
  case round =>
   obtain ⟨k, hk, rfl, hf, hbr⟩ := hrel
   by_cases hlt : k < l.length
   ·have hs := drop_step 0 l m HL.out k hlt
    rw [hf] at hs
    have HS := hid hs; clear hs hf
    have hx : (k : Int) < m.length := by rw [← HL.out]; omega
    have hS5 := hS.below hbr
    have hS6 := hM.below hbr
    clear hlen
    go_wp2_with fail
    refine wp_region_quiet_lit kR kR ?_
    repeat (first | ((with_reducible refine wpQD_idx 0 E_ints F_int cInt1 wU wU (hS5) oD oD (fun _ => wU) (fun _ => ?_)); (try simp only [Act.put, pA, pB, pC]); (try simp only [cInt])) | ((with_reducible refine wpQD_idx 0 E_ints F_int cInt1 wU wU (hS6) oD oD (fun _ => wU) (fun _ => ?_)); (try simp only [Act.put, pA, pB, pC]); (try simp only [cInt])) | quiet_step (fail))
    refine wpQuiet_nil ?_
    intro w5 hb5
    replace hb5 := below_drewN hb5
    have b5 := bnext hbr hb5
    go_wp2_with fail
    ·have hd : (atD 0 l k != atD 0 m k) = true := by assumption
     have h := HS.out
     rw [show decide (atD 0 l k = atD 0 m k) = false by simpa using hd, Bool.false_and] at h
     go_ret
     exact ⟨by rw [h]; rfl, b5⟩
    ·have hd : (atD 0 l k != atD 0 m k) = false := by assumption
     have h := HS.out
     rw [show decide (atD 0 l k = atD 0 m k) = true by simpa using hd, Bool.true_and] at h
     exact ⟨⟨k + 1, by omega, by go_num, h.symm, b5⟩, by simp [intOf]; omega⟩
   ·have : k = l.length := by omega
    subst this
    rw [List.drop_length, HL.out, List.drop_length] at hf
    have HF := hid hf; clear hf hlen
    go_wp2_with fail
    go_ret
    exact ⟨by rw [← HF.out]; rfl, hbr⟩
 ·have e : decide (l = m) = false := by
   simp only [decide_eq_false_iff_not]; intro e; exact hlen (by rw [e])
  rw [e]
  have hb : ((l.length : Int) != m.length) = true := by simp; omega
  clear e
  go_enter Tryz.func19, Tryz.ntmps19
  go_wp2_with fail
  go_ret
  exact ⟨rfl, Below.refl _ _⟩

/-- a word that CheckWord accepts fits the strands. -/
theorem wordE_fits {n : Int} {ws : List Int} (h : wordE n ws = 0) : 1 ≤ n ∧ n ≤ 12 ∧ ws.length ≤ 200 ∧ ∀ x ∈ ws, x ≠ 0 ∧ -n < x ∧ x < n := by
 unfold wordE strandsE at h
 split at h
 ·omega
 ·next h1 =>
  split at h
  ·omega
  ·split at h
   ·omega
   ·next h2 h3 =>
    have h1' : 1 ≤ n ∧ n ≤ 12 := by omega
    refine ⟨h1'.1, h1'.2, by omega, fun x hx => ?_⟩
    obtain ⟨j, hj, rfl⟩ := List.getElem_of_mem hx
    have h4 : ¬ outB n (atD 0 ws j) = true := fun h => by
     have := (idxGo_neg n ws ws.length 0).2 ⟨j, by omega, by omega, h⟩
     omega
    have e2 : atD 0 ws j = ws[j] := by simp [atD, hj]
    rw [e2] at h4
    simp only [outB, Bool.or_eq_true, beq_iff_eq, decide_eq_true_eq, not_or] at h4
    omega
end Go.Proofs.YtglpfpdomnllkaaGreat

namespace Go.Proofs.YtglpfpdomnllkaaGreat
open Go.RowKit
set_option maxHeartbeats 1000000
set_option maxRecDepth 100000

theorem rletter_any (n x : Int) (w : World) (h1 : 1 ≤ n) (h2 : n ≤ 12) :
  Calls Tryz.prog 59 #[.int .i64 n, .int .i64 x] w fun r w' => r = .returned (.bool (!outB n x)) ∧ w = w' := by
 by_cases c0 : x = 0
 ·have e : (!outB n x) = false := by simp [outB, c0]
  rw [e]
  clear e
  subst c0
  go_enter Tryz.func59, Tryz.ntmps59
  go_wp2
  go_ret
  exact ⟨rfl, rfl⟩
 by_cases c1 : 0 - n < x
 ·have e : (!outB n x) = decide (x < n) := by
   have a1 : (x == 0) = false := by simpa using c0
   have a2 : decide (x ≤ -n) = false := by simp; omega
   by_cases c2 : x < n
   ·have a3 : decide (n ≤ x) = false := by simp; omega
    simp [outB, a1, a2, a3, c2]
   ·have a3 : decide (n ≤ x) = true := by simp; omega
    simp [outB, a1, a2, a3, c2]
  rw [e]
  clear e
  have hx : (x != 0) = true := by simpa using c0
  go_enter Tryz.func59, Tryz.ntmps59
  go_wp2
  go_ret
  exact ⟨rfl, rfl⟩
 ·have e : (!outB n x) = false := by
   have a2 : decide (x ≤ -n) = true := by simp; omega
   simp [outB, a2]
  rw [e]
  clear e
  have hx : (x != 0) = true := by simpa using c0
  go_enter Tryz.func59, Tryz.ntmps59
  go_wp2
  go_ret
  exact ⟨rfl, rfl⟩

theorem wordE_any {n : Int} {l : List Int} (h : strandsE n = 0) (h2 : l.length ≤ 200) : wordE n l = if l.any (outB n) then 3 else 0 := by
 unfold wordE
 rw [if_neg (fun hh => hh h), if_neg (by omega)]
 have key : (0 ≤ idxGo n l 0 l.length) ↔ l.any (outB n) = true := by
  rw [idxGo_neg, List.any_eq_true]
  constructor
  ·rintro ⟨j, _, hj, ho⟩
   exact ⟨atD 0 l j, by simp [atD, show j < l.length by omega], ho⟩
  ·rintro ⟨x, hx, ho⟩
   obtain ⟨j, hj, rfl⟩ := List.getElem_of_mem hx
   exact ⟨j, by omega, by omega, by simpa [atD, hj] using ho⟩
 by_cases c : l.any (outB n) = true
 ·rw [if_pos (key.2 c), if_pos c]
 ·rw [if_neg (fun h => c (key.1 h)), if_neg c]
theorem rCheckWord_any (n : Int) (a : Option Addr) (cap : Nat) (l : List Int) (w : World) (hS : Ints w a cap l) :
  Calls Tryz.prog 16 #[.int .i64 n, .slice a l.length cap] w fun r w' => r = .returned (.int .i64 (wordE n l)) ∧ Below w.heap.size w w' := by
 have hcap := hS.le
 have hm := hS.max
 by_cases h1 : n < 1
 ·have e : wordE n l = 3 := by simp [wordE, strandsE, h1]
  rw [e]
  clear e
  go_enter Tryz.func16, Tryz.ntmps16
  go_wp2
  go_ret
  exact ⟨rfl, Below.refl _ _⟩
 by_cases h2 : 12 < n
 ·have e : wordE n l = 3 := by simp [wordE, strandsE, h2]
  rw [e]
  clear e
  go_enter Tryz.func16, Tryz.ntmps16
  go_wp2
  go_ret
  exact ⟨rfl, Below.refl _ _⟩
 have hs0 : strandsE n = 0 := by unfold strandsE; rw [if_neg (by omega)]
 by_cases h3 : 200 < l.length
 ·have e : wordE n l = 5 := by unfold wordE; rw [hs0]; simp [h3]
  rw [e]
  clear e
  go_enter Tryz.func16, Tryz.ntmps16
  go_wp2
  go_ret
  exact ⟨rfl, Below.refl _ _⟩
 have hE : wordE n l = if l.any (outB n) then 3 else 0 := wordE_any hs0 (by omega)
 obtain ⟨m, hm2⟩ : ∃ m, m = wordE n l := ⟨_, rfl⟩
 rw [← hm2] at hE ⊢
 have HE := hid hE; clear hE hm2
 go_enter Tryz.func16, Tryz.ntmps16
 go_wp2
 go_loopw [5] (fun i wr => ∃ k : Nat, k ≤ l.length ∧ i = .int .i64 k ∧ (l.take k).any (outB n) = false ∧ Below w.heap.size w wr) (fun i _ => l.length - (intOf i).toNat)
 case atStart => exact ⟨0, by omega, rfl, rfl, Below.refl _ _⟩
 case round =>
  obtain ⟨k, hk, rfl, hno, hbr⟩ := hrel
  have hR := hS.below hbr
  by_cases hlt : k < l.length
  ·have ht : l.take (k + 1) = l.take k ++ [atD 0 l k] := by rw [List.take_succ_eq_append_getElem hlt]; simp [atD, hlt]
   have HT := hid ht; clear ht
   have HNO := hid hno; clear hno
   cases ho : outB n (atD 0 l k)
   ·have e : (!outB n (atD 0 l k)) = true := by rw [ho]; rfl
    have hno2 : (l.take (k + 1)).any (outB n) = false := by rw [HT.out, List.any_append, HNO.out]; simp [ho]
    have HE2 := hid e; have HN2 := hid hno2; clear e hno2 ho
    go_wp2_with (first | (with_reducible refine wpList_idx _ 0 E_ints F_int cInt1 wU wU (hR) oD oD (fun _ => wU) (fun _ => ?_)) | (go_at_call 59; refine (rletter_any _ _ _ (by omega) (by omega)).mono ?_; rw [HE2.out]; rintro e w' ⟨rfl, rfl⟩))
    go_roundw
    case rel => exact ⟨k + 1, by omega, by go_num, HN2.out, hbr⟩
    case measure => simp [intOf]; omega
   ·have e : (!outB n (atD 0 l k)) = false := by rw [ho]; rfl
    have hm3 : m = 3 := by
     rw [HE.out, if_pos]
     rw [List.any_eq_true]
     exact ⟨atD 0 l k, by simp [atD, hlt], ho⟩
    have HE2 := hid e; have HM := hid hm3; clear e hm3 ho
    go_wp2_with (first | (with_reducible refine wpList_idx _ 0 E_ints F_int cInt1 wU wU (hR) oD oD (fun _ => wU) (fun _ => ?_)) | (go_at_call 59; refine (rletter_any _ _ _ (by omega) (by omega)).mono ?_; rw [HE2.out]; rintro e w' ⟨rfl, rfl⟩))
    go_ret
    exact ⟨by rw [HM.out]; rfl, hbr⟩
  ·have : k = l.length := by omega
   subst this
   rw [List.take_length] at hno
   have hm3 : m = 0 := by rw [HE.out, hno]; rfl
   have HM := hid hm3; clear hm3 hno
   go_wp2_with fail
   go_ret
   exact ⟨by rw [HM.out]; rfl, hbr⟩
end Go.Proofs.YtglpfpdomnllkaaGreat

namespace Go.Proofs.YtglpfpdomnllkaaGreat
open Go.RowKit
set_option maxHeartbeats 400000
set_option maxRecDepth 100000

end Go.Proofs.YtglpfpdomnllkaaGreat

namespace Go.Proofs.YtglpfpdomnllkaaGreat
open Go.RowKit

theorem nodup_ne {l : List Int} (h : l.Nodup) {a b : Nat} (hab : a < b) (hb : b < l.length) : atD 0 l a ≠ atD 0 l b := by
 have := (List.pairwise_iff_getElem.1 h) a b (by omega) hb hab
 simpa [atD, hb, show a < l.length by omega] using this

theorem nodup_le (n : Nat) (l : List Int) (hn : l.Nodup) (hr : ∀ x ∈ l, 0 ≤ x ∧ x < n) : l.length ≤ n := by
 rcases Nat.lt_or_ge n l.length with h | h
 ·obtain ⟨a, b, h1, h2, h3⟩ := php n (fun k => (atD 0 l k).toNat) (fun k hk => by
   have := hr (atD 0 l k) (by simp [atD, show k < l.length by omega])
   omega)
  have ha := hr (atD 0 l a) (by simp [atD, show a < l.length by omega])
  have hb := hr (atD 0 l b) (by simp [atD, show b < l.length by omega])
  exact absurd (by omega) (nodup_ne hn h1 (by omega))
 ·exact h

section
variable {p : List Int} (hp : IsP p)
include hp
end

def orbGo (p : List Int) (i : Int) : Nat → Int → List Int
 | 0, _ => []
 | f + 1, x => x :: (if atD 0 p x = i then [] else orbGo p i f (atD 0 p x))
def orb (p : List Int) (i : Int) : List Int := orbGo p i p.length i

theorem orbGo_eq {p : List Int} {i : Int} {d : Nat} (h : Ord p i d) : ∀ (f k : Nat), k < d → d ≤ k + f → orbGo p i f (itP p i k) = (List.range' k (d - k)).map (itP p i)
 | 0, k, h1, h2 => by omega
 | f + 1, k, h1, h2 => by
   rw [orbGo]
   have e : d - k = (d - (k + 1)) + 1 := by omega
   rw [e, List.range'_succ, List.map_cons]
   congr 1
   by_cases hk : k + 1 = d
   · have e2 : atD 0 p (itP p i k) = i := by have := h.back; rw [← hk] at this; exact this
     rw [if_pos e2, hk]; simp
   · have hne : atD 0 p (itP p i k) ≠ i := h.min (k + 1) (by omega) (by omega)
     rw [if_neg hne]
     exact orbGo_eq h f (k + 1) (by omega) (by omega)
theorem orb_eq {p : List Int} {i : Int} {d : Nat} (h : Ord p i d) : orb p i = (List.range d).map (itP p i) := by
 have := orbGo_eq h p.length 0 h.pos (by have := h.le; omega)
 rw [orb, List.range_eq_range']; simpa [itP] using this
theorem orb_len {p : List Int} {i : Int} {d : Nat} (h : Ord p i d) : (orb p i).length = d := by rw [orb_eq h]; simp

theorem orb_nodup {p : List Int} (hp : IsP p) {i : Int} (h0 : 0 ≤ i) (h1 : i < p.length) {d : Nat} (h : Ord p i d) : (orb p i).Nodup := by
 rw [orb_eq h, List.Nodup, List.pairwise_map, List.pairwise_iff_getElem]
 intro a b ha hb hab
 simp at ha hb ⊢
 intro e
 have e2 : itP p i b = itP p (itP p i (b - a)) a := by rw [← itP_add]; congr 1; omega
 rw [e2] at e
 have rd := itP_rng hp h0 h1 (b - a)
 exact h.min (b - a) (by omega) (by omega) (itP_inj hp h0 h1 rd.1 rd.2 a e).symm

/-- the cycles that the first k places have. -/
def cycK (p : List Int) : Nat → List (List Int)
 | 0 => []
 | k + 1 => if (k : Int) ∈ (cycK p k).flatten then cycK p k else cycK p k ++ [orb p k]

theorem cycK_ok {p : List Int} (hp : IsP p) : ∀ k, k ≤ p.length → (cycK p k).flatten.Nodup ∧ (∀ x ∈ (cycK p k).flatten, 0 ≤ x ∧ x < p.length) ∧ (∀ x ∈ (cycK p k).flatten, atD 0 p x ∈ (cycK p k).flatten)
 | 0, _ => by simp [cycK]
 | k + 1, hk => by
   obtain ⟨h1, h2, h3⟩ := cycK_ok hp k (by omega)
   rw [cycK]
   split
   · exact ⟨h1, h2, h3⟩
   · rename_i hnot
     have hk0 : (0 : Int) ≤ k := by omega
     have hk1 : (k : Int) < p.length := by omega
     obtain ⟨d, hd⟩ := ord_ex hp hk0 hk1
     have hmem : ∀ x, x ∈ orb p k ↔ ∃ j, j < d ∧ itP p k j = x := by intro x; rw [orb_eq hd]; simp
     have hcl : ∀ m (x : Int), x ∈ (cycK p k).flatten → itP p x m ∈ (cycK p k).flatten := by
       intro m
       induction m with
       | zero => intro x hx; exact hx
       | succ m ih => intro x hx; exact h3 _ (ih x hx)
     rw [List.flatten_append]
     simp only [List.flatten_cons, List.flatten_nil, List.append_nil]
     refine ⟨List.nodup_append.2 ⟨h1, orb_nodup hp hk0 hk1 hd, ?_⟩, ?_, ?_⟩
     · intro x hx y hy e
       subst e
       obtain ⟨j, hj, rfl⟩ := (hmem _).1 hy
       have := hcl (d - j) _ hx
       rw [← itP_add, show d - j + j = d by omega, hd.back] at this
       exact hnot this
     · intro x hx
       rcases List.mem_append.1 hx with h | h
       · exact h2 x h
       · obtain ⟨j, hj, rfl⟩ := (hmem _).1 h
         exact itP_rng hp hk0 hk1 j
     · intro x hx
       rcases List.mem_append.1 hx with h | h
       · exact List.mem_append_left _ (h3 x h)
       · obtain ⟨j, hj, rfl⟩ := (hmem _).1 h
         refine List.mem_append_right _ ((hmem _).2 ?_)
         by_cases e : j + 1 = d
         · exact ⟨0, hd.pos, by have := hd.back; rw [← e] at this; exact this.symm⟩
         · exact ⟨j + 1, by omega, rfl⟩

theorem cycK_len (p : List Int) : ∀ k, (cycK p k).length ≤ k
 | 0 => by simp [cycK]
 | k + 1 => by have := cycK_len p k; rw [cycK]; split <;> simp <;> omega
/-- the least common multiple, as it is computed. -/
def lcmF (o n : Nat) : Nat := o / Nat.gcd o n * n
end Go.Proofs.YtglpfpdomnllkaaGreat

namespace Go.Proofs.YtglpfpdomnllkaaGreat
open Go.RowKit Go.Shelf
set_option maxHeartbeats 2000000
set_option maxRecDepth 100000

theorem Reps.keep {α : Type} {c : α → Value} {sz : Nat} {w w' : World} {a : Option Addr} {cap : Nat} {l : List α} (h : Reps c sz w a cap l) (hk : ∀ b, a = some b → KeepAt b.block w w') : Reps c sz w' a cap l := by
 obtain ⟨h1, h2, h3, h4, h5⟩ := h
 refine ⟨h1, h2, h3, h4, fun j u hj => ?_⟩
 obtain ⟨b, o, e, hc⟩ := h5 j u hj
 exact ⟨b, o, e, (hk _ e).cell.trans hc⟩
section
variable {p : List Int} (hp : IsP p) {i : Int} (h0 : 0 ≤ i) (h1 : i < p.length)
end

end Go.Proofs.YtglpfpdomnllkaaGreat

namespace Go.Proofs.YtglpfpdomnllkaaGreat
open Go.RowKit Go.Shelf
set_option maxHeartbeats 2000000
set_option maxRecDepth 100000

abbrev SlH := Option Addr × Nat × Nat
abbrev cSl (x : SlH) : Value := .slice x.1 x.2.1 x.2.2
theorem cSl1 (x : SlH) : (cSl x).cells = #[cSl x] := rfl
theorem cSlS (x : SlH) : (cSl x).cells.size = 1 := rfl
theorem cSlO (x : SlH) : ∀ u ∈ (cSl x).cells.toList, u.oneCell' = true := by intro u hu; simp [cSl, Value.cells] at hu; subst hu; rfl
theorem E_sls : ETy Tryz.prog 39 22 (.slice none 0 0) 1 24 := ⟨Tryz.underlying39, by kernel_rfl, rfl, by decide⟩
theorem F_sl : Flat Tryz.prog 22 := ⟨_, Tryz.underlying22, rfl⟩
theorem E_bools : ETy Tryz.prog 194 4 (cBool false) 1 1 := ⟨Tryz.underlying194, by kernel_rfl, rfl, by decide⟩
theorem F_bool : Flat Tryz.prog 4 := ⟨_, Tryz.underlying4, rfl⟩

def inP (q : SlH × List Int) : Pc := pOwn cInt 1 3 (cSl q.1) q.2
theorem cycK_in {p : List Int} {k : Nat} (h : (k : Int) ∈ (cycK p k).flatten) : cycK p (k + 1) = cycK p k := by rw [cycK, if_pos h]
theorem cycK_out {p : List Int} {k : Nat} (h : ¬ (k : Int) ∈ (cycK p k).flatten) : cycK p (k + 1) = cycK p k ++ [orb p k] := by rw [cycK, if_neg h]
end Go.Proofs.YtglpfpdomnllkaaGreat

namespace Go.Proofs.YtglpfpdomnllkaaGreat
open Go.RowKit
section
variable {P : Program} {ops : Array Oper} {Q : Exit → Act → World → Prop} {C : World → Prop}
theorem wpOp_call {i : Nat} {o : Oper} {f : FuncId} {args : Array Value} {a : Act} {w : World} (hi : ops[i]? = some o) (hw : Region.wanted o (yielded ops a.tmps) = true) (hrun : (execOp a.eval o).run P w = .ok (.enter f args) w) {K : Act → World → Prop}
   (h : Calls P f args w fun e w' => ∃ v, e = .returned v ∧ K (a.put o.dst v) w') : wpOp P ops Q i K a w := by
 unfold wpOp
 simp only [hi, hw, if_true, Oper.wp, hrun, Oper.upon]
 refine .inl (h.mono ?_)
 rintro e w' ⟨v, rfl, hK⟩
 exact hK
end
end Go.Proofs.YtglpfpdomnllkaaGreat

namespace Go.Proofs.YtglpfpdomnllkaaGreat
open Go.RowKit
section
variable {P : Program} {ops : Array Oper} {Q : Exit → Act → World → Prop} {md : Region.Mode} {C : World → Prop}

end
section
variable {P : Program} {ops : Array Oper} {w : World} {a : Act} {ty : TypeId} {p : String} {af : Array Edge} {g : Option (Nat × Bool)} {d : Tmp}
theorem yieldsK_cell {e : TypeId} {s : Operand} {x : Addr} {v : Value} (hF : Flat P e) (hb : w.cell? x = some v) (hg : Region.wanted (⟨some d, .load e s, ty, p, af, g⟩ : Oper) (yielded ops a.tmps) = true) (hs : a.eval s = .pointer (some x)) :
  YieldsK P ops (Below w.heap.size w) ⟨some d, .load e s, ty, p, af, g⟩ v a := by
 refine .inl ⟨hg, fun w' hw' => ?_⟩
 have hc : w'.cell? x = some v := (hw'.cell (World.block_lt_of_cell? w _ hb)).trans hb
 simp [execOp, hs, run_loadAt_cell w' hF hc, Result.andThen]
end
end Go.Proofs.YtglpfpdomnllkaaGreat

namespace Go.Proofs.YtglpfpdomnllkaaGreat

end Go.Proofs.YtglpfpdomnllkaaGreat

namespace Go.Proofs.YtglpfpdomnllkaaGreat
open Go.RowKit
set_option maxHeartbeats 1000000
set_option maxRecDepth 100000

def idL (n : Nat) : List Int := (List.range n).map fun (i : Nat) => (i : Int)
theorem idL_succ (n : Nat) : idL (n + 1) = idL n ++ [(n : Int)] := by simp [idL, List.range_succ]
theorem idL_len (n : Nat) : (idL n).length = n := by simp [idL]
end Go.Proofs.YtglpfpdomnllkaaGreat

namespace Go.Proofs.YtglpfpdomnllkaaGreat
open Go.RowKit
set_option maxHeartbeats 1000000
set_option maxRecDepth 100000

section
variable {s : List Int} {ms : List (Int × Int)} {p : List Int}
end

theorem cycK_orb {p : List Int} (hp : IsP p) : ∀ {k : Nat}, k ≤ p.length → ∀ l ∈ cycK p k, ∃ j : Nat, j < k ∧ l = orb p j
 | 0, _, l, h => by simp [cycK] at h
 | k + 1, hk, l, h => by
   rw [cycK] at h
   split at h
   · obtain ⟨j, a, b⟩ := cycK_orb hp (by omega) l h; exact ⟨j, by omega, b⟩
   · rcases List.mem_append.1 h with h | h
     · obtain ⟨j, a, b⟩ := cycK_orb hp (by omega) l h; exact ⟨j, by omega, b⟩
     · simp at h; exact ⟨k, by omega, h⟩
theorem cycK_all {p : List Int} (hp : IsP p) : ∀ {k : Nat}, k ≤ p.length → ∀ j : Nat, j < k → (j : Int) ∈ (cycK p k).flatten
 | 0, _, j, h => by omega
 | k + 1, hk, j, h => by
   rw [cycK]
   split
   · rename_i hin
     by_cases e : j = k
     · subst e; exact hin
     · exact cycK_all hp (by omega) j (by omega)
   · rw [List.flatten_append]
     by_cases e : j = k
     · subst e
       refine List.mem_append_right _ ?_
       obtain ⟨d, hd⟩ := ord_ex hp (i := (j : Int)) (by omega) (by omega)
       simp only [List.flatten_cons, List.flatten_nil, List.append_nil]
       rw [orb_eq hd]
       exact List.mem_map.2 ⟨0, by simp [hd.pos], rfl⟩
     · exact List.mem_append_left _ (cycK_all hp (by omega) j (by omega))
end Go.Proofs.YtglpfpdomnllkaaGreat

namespace Go.Proofs.YtglpfpdomnllkaaGreat
open Go.RowKit
set_option maxHeartbeats 1000000
set_option maxRecDepth 100000

theorem isP_mem {p : List Int} (hp : IsP p) : ∀ x ∈ p, 0 ≤ x ∧ x < p.length := by
 intro x hx
 obtain ⟨i, hi, rfl⟩ := List.mem_iff_getElem.1 hx
 have := hp.rng i (by omega) (by omega)
 simpa [atD, hi] using this
theorem isP_surj {p : List Int} (hp : IsP p) {y : Int} (h0 : 0 ≤ y) (h1 : y < p.length) : ∃ i : Nat, i < p.length ∧ atD 0 p i = y := by
 obtain ⟨d, a, _, c⟩ := itP_back hp h0 h1
 obtain ⟨e, rfl⟩ : ∃ e, d = e + 1 := ⟨d - 1, by omega⟩
 have hr := itP_rng hp h0 h1 e
 exact ⟨(itP p y e).toNat, by omega, by rw [Int.toNat_of_nonneg hr.1]; exact c⟩

def row5 : List Int → List Int → List Int
 | st, [] => st
 | st, x :: r => row5 (swapL st (absI x)) r
theorem row5_len : ∀ (l st : List Int), (row5 st l).length = st.length
 | [], st => rfl
 | x :: r, st => by rw [row5, row5_len r, swapL_len]
theorem swapL_at {st : List Int} {k j : Int} (h1 : 1 ≤ k) (h2 : k < st.length) (hj : 0 ≤ j) : atD 0 (swapL st k) j = atD 0 st (sw (k - 1) k j) := by
 unfold swapL sw
 rw [atD_set (by omega) (by simp; omega) hj, atD_set (by omega) (by omega) hj]
 by_cases a : j = k
 ·subst a; rw [if_pos rfl, if_neg (by omega), if_pos rfl]
 ·rw [if_neg a, if_neg a]
  by_cases b : j = k - 1
  ·rw [if_pos b, if_pos b]
  ·rw [if_neg b, if_neg b]
theorem swapL_isP {st : List Int} {k : Int} (h1 : 1 ≤ k) (h2 : k < st.length) (h : IsP st) : IsP (swapL st k) := by
 refine ⟨fun x x0 x1 => ?_, fun x y x0 x1 y0 y1 e => ?_⟩
 ·rw [swapL_len] at x1 ⊢
  rw [swapL_at h1 h2 x0]
  obtain ⟨a, b⟩ := sw_rng (f := k - 1) (t := k) (n := st.length) ⟨by omega, by omega⟩ ⟨by omega, h2⟩ ⟨x0, x1⟩
  exact h.rng _ a b
 ·rw [swapL_len] at x1 y1
  rw [swapL_at h1 h2 x0, swapL_at h1 h2 y0] at e
  obtain ⟨a, b⟩ := sw_rng (f := k - 1) (t := k) (n := st.length) ⟨by omega, by omega⟩ ⟨by omega, h2⟩ ⟨x0, x1⟩
  obtain ⟨c, d⟩ := sw_rng (f := k - 1) (t := k) (n := st.length) ⟨by omega, by omega⟩ ⟨by omega, h2⟩ ⟨y0, y1⟩
  have := congrArg (sw (k - 1) k) (h.inj _ _ a b c d e)
  rwa [sw_sw, sw_sw] at this
theorem row5_isP : ∀ (l st : List Int), IsP st → (∀ x ∈ l, 1 ≤ absI x ∧ absI x < st.length) → IsP (row5 st l)
 | [], st, h, _ => h
 | x :: r, st, h, hf => by
   obtain ⟨a, b⟩ := hf x (by simp)
   rw [row5]
   exact row5_isP r _ (swapL_isP a b h) (fun y hy => by rw [swapL_len]; exact hf y (by simp [hy]))
theorem idL_at {n : Nat} {j : Int} (h0 : 0 ≤ j) (h1 : j < n) : atD 0 (idL n) j = j := by
 unfold idL atD
 rw [List.getD_eq_getElem?_getD, List.getElem?_map, List.getElem?_range (by omega)]
 simp; omega
theorem idL_isP (n : Nat) : IsP (idL n) := by
 refine ⟨fun x x0 x1 => ?_, fun x y x0 x1 y0 y1 e => ?_⟩
 ·rw [idL_len] at x1 ⊢; rw [idL_at x0 x1]; exact ⟨x0, x1⟩
 ·rw [idL_len] at x1 y1; rwa [idL_at x0 x1, idL_at y0 y1] at e
def invK (p : List Int) (k : Nat) : List Int := (List.range k).foldl (fun (o : List Int) (i : Nat) => o.set (atD 0 p i).toNat (i : Int)) (List.replicate p.length 0)
def invL (p : List Int) : List Int := invK p p.length
theorem invK_succ (p : List Int) (k : Nat) : invK p (k + 1) = (invK p k).set (atD 0 p k).toNat (k : Int) := by unfold invK; rw [List.range_succ, List.foldl_append]; rfl
theorem invK_len (p : List Int) : ∀ k, (invK p k).length = p.length
 | 0 => by simp [invK]
 | k + 1 => by rw [invK_succ, List.length_set, invK_len p k]
theorem invK_at {p : List Int} (hp : IsP p) : ∀ k, k ≤ p.length → ∀ i : Nat, i < k → atD 0 (invK p k) (atD 0 p i) = i
 | 0, _, i, h => by omega
 | k + 1, hk, i, h => by
   have hi := hp.rng i (by omega) (by omega)
   have hk1 := hp.rng k (by omega) (by omega)
   rw [invK_succ, atD_set hk1.1 (by rw [invK_len]; exact hk1.2) hi.1]
   by_cases e : i = k
   · subst e; rw [if_pos rfl]
   · rw [if_neg (fun e2 => e (by have := hp.inj i k (by omega) (by omega) (by omega) (by omega) e2; omega))]
     exact invK_at hp k (by omega) i (by omega)
theorem invL_len (p : List Int) : (invL p).length = p.length := invK_len p _
theorem invL_left {p : List Int} (hp : IsP p) {i : Int} (h0 : 0 ≤ i) (h1 : i < p.length) : atD 0 (invL p) (atD 0 p i) = i := by
 have := invK_at hp p.length (Nat.le_refl _) i.toNat (by omega)
 rwa [Int.toNat_of_nonneg h0] at this
theorem invL_right {p : List Int} (hp : IsP p) {y : Int} (h0 : 0 ≤ y) (h1 : y < p.length) : atD 0 p (atD 0 (invL p) y) = y := by
 obtain ⟨i, hi, rfl⟩ := isP_surj hp h0 h1
 rw [invL_left hp (by omega) (by omega)]
theorem invL_isP {p : List Int} (hp : IsP p) : IsP (invL p) := by
 refine ⟨fun y y0 y1 => ?_, fun x y x0 x1 y0 y1 e => ?_⟩
 ·rw [invL_len] at y1 ⊢
  obtain ⟨i, hi, rfl⟩ := isP_surj hp y0 y1
  rw [invL_left hp (by omega) (by omega)]; omega
 ·rw [invL_len] at x1 y1
  rw [← invL_right hp x0 x1, ← invL_right hp y0 y1, e]
theorem itP_succ' (p : List Int) (x : Int) (n : Nat) : itP p x (n + 1) = itP p (atD 0 p x) n := by rw [itP_add p x 1 n]; rfl
def markL (S : List Bool) (c : List Int) : List Bool := c.foldl (fun S x => S.set x.toNat true) S
theorem markL_snoc (S : List Bool) (c : List Int) (x : Int) : markL S (c ++ [x]) = (markL S c).set x.toNat true := by simp [markL]
theorem markL_len (S : List Bool) : ∀ c : List Int, (markL S c).length = S.length := by
 intro c
 unfold markL
 induction c generalizing S with
 | nil => rfl
 | cons x r ih => rw [List.foldl_cons, ih]; simp
theorem atB_set {l : List Bool} {i j : Int} {x : Bool} (h0 : 0 ≤ i) (h1 : i < l.length) (hj : 0 ≤ j) : atD false (l.set i.toNat x) j = if j = i then x else atD false l j := by
 unfold atD
 rw [List.getD_eq_getElem?_getD, List.getElem?_set]
 by_cases h : j = i
 ·subst h; simp [show j.toNat < l.length by omega]
 ·have : ¬ i.toNat = j.toNat := by omega
  simp [h, this]
theorem markL_at : ∀ (c : List Int) (S : List Bool), (∀ x ∈ c, 0 ≤ x ∧ x < S.length) → ∀ j : Int, 0 ≤ j → atD false (markL S c) j = (atD false S j || decide (j ∈ c))
 | [], S, _, j, _ => by simp [markL]
 | x :: r, S, h, j, j0 => by
   obtain ⟨a, b⟩ := h x (by simp)
   show atD false (markL (S.set x.toNat true) r) j = _
   rw [markL_at r _ (fun y hy => by rw [List.length_set]; exact h y (by simp [hy])) j j0, atB_set a b j0]
   by_cases e : j = x
   · subst e; simp
   · simp [e]
/-- the first j places of a cycle. -/
def orbK (p : List Int) (i : Int) (j : Nat) : List Int := (List.range j).map (itP p i)
theorem orbK_succ (p : List Int) (i : Int) (j : Nat) : orbK p i (j + 1) = orbK p i j ++ [itP p i j] := by simp [orbK, List.range_succ]
theorem orbK_len (p : List Int) (i : Int) (j : Nat) : (orbK p i j).length = j := by simp [orbK]
theorem orbK_new {p : List Int} (hp : IsP p) {i : Int} (h0 : 0 ≤ i) (h1 : i < p.length) {d : Nat} (h : Ord p i d) {j : Nat} (hj : j < d) : itP p i j ∉ orbK p i j := by
 intro hm
 obtain ⟨a, ha, e⟩ := List.mem_map.1 hm
 have ha := List.mem_range.1 ha
 have e2 : itP p i j = itP p (itP p i (j - a)) a := by rw [← itP_add]; congr 1; omega
 rw [e2] at e
 have rd := itP_rng hp h0 h1 (j - a)
 exact h.min (j - a) (by omega) (by omega) (itP_inj hp h0 h1 rd.1 rd.2 a e).symm
theorem orbK_out {p : List Int} (hp : IsP p) {k : Nat} (hk : k < p.length) (hn : (k : Int) ∉ (cycK p k).flatten) {d : Nat} (h : Ord p k d) {j : Nat} (hj : j ≤ d) : itP p k j ∉ (cycK p k).flatten := by
 intro hm
 obtain ⟨_, _, h3⟩ := cycK_ok hp k (by omega)
 have hcl : ∀ m (x : Int), x ∈ (cycK p k).flatten → itP p x m ∈ (cycK p k).flatten := by
  intro m
  induction m with
  | zero => intro x hx; exact hx
  | succ m ih => intro x hx; exact h3 _ (ih x hx)
 have := hcl (d - j) _ hm
 rw [← itP_add, show d - j + j = d by omega, h.back] at this
 exact hn this
end Go.Proofs.YtglpfpdomnllkaaGreat

namespace Go.Proofs.YtglpfpdomnllkaaGreat
set_option maxRecDepth 100000

theorem itM_mod {m : MacV} {s : Int} {d : Nat} (h : Ord (permM m) s d) (n : Nat) : itM m s (n % d) = itM m s n := by
 have e : n = n % d + n / d * d := by have := Nat.mod_add_div n d; rw [Nat.mul_comm] at this; omega
 unfold itM
 conv => rhs; rw [e, itP_add, itP_mul h.back]
theorem itM_inj {m : MacV} {s t : Int} (h0 : 0 ≤ s) (h1 : s < 4 * m.gears) (k0 : 0 ≤ t) (k1 : t < 4 * m.gears) : ∀ n, itM m s n = itM m t n → s = t
 | 0, h => h
 | n + 1, h => by
   rw [itM_succ h0 h1, itM_succ k0 k1] at h
   have a := itM_rng h0 h1 n
   have b := itM_rng k0 k1 n
   exact itM_inj h0 h1 k0 k1 n (next_inj a.1 a.2 b.1 b.2 h)

end Go.Proofs.YtglpfpdomnllkaaGreat

namespace Go.Proofs.YtglpfpdomnllkaaGreat
set_option maxRecDepth 100000

theorem idxO_none {l : List Int} {x : Int} : idxO l x = none ↔ x ∉ l := by
 unfold idxO
 constructor
 ·intro h hm
  rw [if_pos (List.findIdx_lt_length_of_exists ⟨x, hm, by simp⟩)] at h
  cases h
 ·intro h
  rw [if_neg]
  rw [List.findIdx_lt_length]
  rintro ⟨y, hy, e⟩
  have : y = x := by simpa using e
  exact h (this ▸ hy)
theorem slotG_inj {m : MacV} {g : Int} {i j : Nat} (hi : i < 4) (hj : j < 4) (h : slotG m g i = slotG m g j) : i = j := by
 have hi' : i = 0 ∨ i = 1 ∨ i = 2 ∨ i = 3 := by omega
 have hj' : j = 0 ∨ j = 1 ∨ j = 2 ∨ j = 3 := by omega
 cases hf : fwdM m g <;> rcases hi' with rfl | rfl | rfl | rfl <;> rcases hj' with rfl | rfl | rfl | rfl <;> simp [slotG, hf] at h ⊢ <;> omega
end Go.Proofs.YtglpfpdomnllkaaGreat

namespace Go.Proofs.YtglpfpdomnllkaaGreat
open Go.RowKit
set_option maxHeartbeats 8000000
set_option maxRecDepth 100000

theorem permM_step (m : MacV) (k : Nat) (h : k < (permM m).length) : (permM m).take (k + 1) = (permM m).take k ++ [nextM m k] := by
 rw [List.take_succ_eq_append_getElem h]
 simp [permM]
section
variable {ops : Array Oper} {rest : List Oper} {a : Act} {Qa : Act → Prop} {w : World} {d : Option Tmp} {ty : TypeId} {p : String} {af : Array Edge} {g : Option (Nat × Bool)} {x y : Operand} {ts : Array TypeId} {b : Bool} {e : Int}
end

end Go.Proofs.YtglpfpdomnllkaaGreat

namespace Go.Proofs.YtglpfpdomnllkaaGreat
open Go.RowKit
set_option maxHeartbeats 8000000
set_option maxRecDepth 100000

theorem after_any (m : MacV) (ad : Option Addr) (cap : Nat) (s n : Int) (w : World) (hR : Ints w ad cap m.sw) (hg : m.gears ≤ 16) (h0 : 0 ≤ s) (h1 : s < 4 * m.gears) (n0 : 0 ≤ n) (n1 : n ≤ 9223372036854775807) :
  Calls Tryz.prog 66 #[mV m ad cap, .int .i64 s, .int .i64 n] w fun r w' => r = .returned (.int .i64 (itM m s n.toNat)) ∧ Below w.heap.size w w' := by
 obtain ⟨d, hd⟩ := ordM h0 h1
 have hd0 := hd.pos
 have hdl := hd.le
 rw [permM_len] at hdl
 have hd64 : d ≤ 64 := by omega
 have CN := fun (k : Nat) w (h : Ints w ad cap m.sw) => mnext_any m ad cap (itM m s k) w h hg (itM_rng h0 h1 k).1 (itM_rng h0 h1 k).2
 have CE := fun (k : Nat) => itM_succ h0 h1 k
 have hback : itM m s d = s := hd.back
 have hmin : ∀ k, 0 < k → k < d → itM m s k ≠ s := fun k a b => hd.min k a b
 have hmod := itM_mod hd n.toNat
 have hmd : n.tmod d = ((n.toNat % d : Nat) : Int) := by
  rw [Int.tmod_eq_emod_of_nonneg n0]
  obtain ⟨k, rfl⟩ : ∃ k : Nat, n = k := ⟨n.toNat, by omega⟩
  simp
 obtain ⟨r, hr⟩ : ∃ r, r = n.toNat % d := ⟨_, rfl⟩
 rw [← hr] at hmod hmd
 have hrd : r < d := by rw [hr]; exact Nat.mod_lt _ hd0
 have hs0 : itM m s 0 = s := rfl
 have hS := (SL.nil w).box (.cells (mC m ad cap) 24)
 have HN := hid CN; have HE := hid CE; have HB := hid hback; have HM := hid hmin; have HO := hid hmod
 clear CN CE hback hmin hmod hd hdl hr
 rw [← HO.out]
 have CZ := HN.out 0
 rw [hs0, ← hs0, ← HE.out 0, hs0] at CZ
 have HZ := hid CZ
 clear CZ
 go_enter Tryz.func66, Tryz.ntmps66
 go_wp2_with fail
 have q1 := (hS.blk 0 rfl).1
 refine (HZ.out _ (hR.below hS.b)).mono ?_
 rintro e w1 ⟨rfl, b1⟩
 have hS1 := hS.mono b1
 clear q1
 go_wp2_with fail
 go_loopw [7, 8] (fun n x wr => ∃ k : Nat, 1 ≤ k ∧ k ≤ d ∧ n = .int .i64 k ∧ x = .int .i64 (itM m s k) ∧ SL w.heap.size w wr [pBlk w.heap.size (.cells (mC m ad cap) 24)]) (fun n _ _ => d - (intOf n).toNat)
 case atStart => exact ⟨1, by omega, by omega, rfl, rfl, hS1⟩
 case round =>
  clear hS hS1
  obtain ⟨k, hk1, hk2, rfl, rfl, hSr⟩ := hrel
  by_cases hkd : k < d
  ·have hne : (itM m s k != s) = true := by simpa using HM.out k (by omega) hkd
   have q1 := (hSr.blk 0 rfl).1
   have C := fun w h => HN.out k w h
   rw [← HE.out k] at C
   have HC := hid C
   clear C
   go_wp2_with (with_reducible refine wpList_ldS (n := 4) (us := mC m ad cap) A_mach kR wU wU (by assumption) wU wU ?_)
   refine (HC.out _ (hR.below hSr.b)).mono ?_
   rintro e w2 ⟨rfl, b2⟩
   have hS2 := hSr.mono b2
   go_wp2_with fail
   exact ⟨⟨k + 1, by omega, by omega, by go_num, rfl, hS2⟩, by simp [intOf]; omega⟩
  ·have hkk : k = d := by omega
   subst hkk
   rw [HB.out]
   have hne : (s != s) = false := by simp
   have hz : ((k : Int) == 0) = false := by simp; omega
   go_wp2_with fail
   go_loopw [1, 23] (fun x i wq => ∃ j : Nat, j ≤ r ∧ i = .int .i64 j ∧ x = .int .i64 (itM m s j) ∧ SL w.heap.size w wq [pBlk w.heap.size (.cells (mC m ad cap) 24)]) (fun _ i _ => r - (intOf i).toNat)
   case atStart => exact ⟨0, by omega, rfl, rfl, hSr⟩
   case round =>
    clear hSr
    obtain ⟨j, hj, rfl, rfl, hSq⟩ := hrel
    by_cases hjr : j < r
    ·have q1 := (hSq.blk 0 rfl).1
     have C := fun w h => HN.out j w h
     rw [← HE.out j] at C
     have HC := hid C
     clear C
     go_wp2_with (with_reducible refine wpList_ldS (n := 4) (us := mC m ad cap) A_mach kR wU wU (by assumption) wU wU ?_)
     refine (HC.out _ (hR.below hSq.b)).mono ?_
     rintro e w2 ⟨rfl, b2⟩
     have hS2 := hSq.mono b2
     go_wp2_with fail
     exact ⟨⟨j + 1, by omega, by go_num, rfl, hS2⟩, by simp [intOf]; omega⟩
    ·have hjj : j = r := by omega
     subst hjj
     go_wp2_with fail
     go_ret
     exact ⟨rfl, hSq.b⟩
end Go.Proofs.YtglpfpdomnllkaaGreat

namespace Go.Proofs.YtglpfpdomnllkaaGreat
open Go.RowKit
set_option maxHeartbeats 8000000
set_option maxRecDepth 100000

theorem steps1_any (m : MacV) (ad : Option Addr) (cap : Nat) (bm bn : Nat) (s n : Int) (w : World) (hm : w.heap[bm]? = some (.cells (mC m ad cap) 24)) (hn : w.heap[bn]? = some (.cells #[.int .i64 n] 3)) (hR : Ints w ad cap m.sw) (hg : m.gears ≤ 16) (h0 : 0 ≤ s) (h1 : s < 4 * m.gears) (n0 : 0 ≤ n) (n1 : n ≤ 9223372036854775807) :
  Calls Tryz.prog 78 #[.int .i64 s, .pointer (some ⟨bm, 0, none⟩), .pointer (some ⟨bn, 0, none⟩)] w fun r w' => r = .returned (.int .i64 (itM m s n.toNat)) ∧ Below w.heap.size w w' := by
 have CA := fun w h => after_any m ad cap s n w h hg h0 h1 n0 n1
 have HA := hid CA
 clear CA
 go_enter Tryz.func78, Tryz.ntmps78
 go_wp2_with (first | (with_reducible refine wpList_ldS (n := 4) (us := mC m ad cap) A_mach kR wU wU (by assumption) wU wU ?_) | (with_reducible refine wpList_ldB F_int wU wU hn wU ?_))
 refine (HA.out _ hR).mono ?_
 rintro e w1 ⟨rfl, b1⟩
 go_wp2_with fail
 go_ret
 exact ⟨rfl, b1⟩

/-- mapped with a function of the program, of which the places are given. -/
theorem mappedS_any (p1 p2 : Value) (g : Int → Int) (al : Option Addr) (cl : Nat) (l : List Int) (w : World) (hL : Ints w al cl l) (hn : l.length ≤ 1048576)
  (HF : ∀ x ∈ l, ∀ w', Below w.heap.size w w' → Calls Tryz.prog 78 #[.int .i64 x, p1, p2] w' fun r w'' => r = .returned (.int .i64 (g x)) ∧ Below w'.heap.size w' w'') :
  Calls Tryz.prog 53 #[.slice al l.length cl, .func (.func 78) #[] #[p1, p2]] w fun r w' => ∃ v, r = .returned v ∧ OwnI w.heap.size w' v (l.map g) ∧ Below w.heap.size w w' := by
 have hcap := hL.le
 have hmx := hL.max
 have H := hid HF
 clear HF
 have hS := (SL.nil w).nilS (α := Int) (e := 3) cIntS
 go_enter Tryz.func53, Tryz.ntmps53
 go_wp2_with fail
 go_loopw [5, 10] (fun v i wr => ∃ k : Nat, k ≤ l.length ∧ i = .int .i64 k ∧ SL w.heap.size w wr [pOwn cInt 1 3 v ((l.take k).map g)]) (fun _ i _ => l.length - (intOf i).toNat)
 case atStart => exact ⟨0, by omega, rfl, hS⟩
 case round =>
  clear hS
  obtain ⟨k, hk, rfl, hSr⟩ := hrel
  have hLr := hL.below hSr.b
  by_cases hlt : k < l.length
  ·have hmem := atD_mem hlt
   have ht := take_snoc hlt
   have hlen : ((l.take k).map g).length ≤ 1048576 := by simp; omega
   obtain ⟨x, hx⟩ : ∃ x, x = atD 0 l k := ⟨_, rfl⟩
   rw [← hx] at hmem ht
   have HX := hid hx; have HT := hid ht
   clear hx ht
   go_wp2_with ((with_reducible refine wpList_idx _ 0 E_ints F_int cInt1 wU wU (hLr) oD oD (fun _ => wU) (fun _ => ?_)); rw [← HX.out])
   refine (H.out x hmem _ hSr.b).mono ?_
   rintro e w1 ⟨rfl, b1⟩
   have hS1 := hSr.mono b1
   go_wp2_with ((with_reducible refine wpList_pushL (y := (g x)) 0 E_ints wU wU (hS1) wU cIntO ⟨rfl, rfl⟩ (by first | with_unfolding_all rfl | simp) wU (by first | omega | (simp; omega)) (by first | omega | (simp; omega)) ?_); intro v2 w2 hS2)
   exact ⟨⟨k + 1, by omega, by go_num, by rw [HT.out, List.map_append]; exact hS2⟩, by simp [intOf]; omega⟩
  ·have hkk : k = l.length := by omega
   subst hkk
   rw [List.take_length] at hSr
   go_wp2_with fail
   go_ret
   exact ⟨_, rfl, hSr.own 0 rfl, hSr.b⟩

def stepsE (m : MacV) (l : List Int) (n : Int) : Int := if loadE m l ≠ 0 then loadE m l else if n < 0 ∨ 999999999 < n then 3 else 0

theorem mSteps_any (m : MacV) (ad : Option Addr) (cap : Nat) (al : Option Addr) (cl : Nat) (l : List Int) (n : Int) (w : World) (hR : Ints w ad cap m.sw) (hL : Ints w al cl l) (HK : ChkL m ad cap al cl l) :
  Calls Tryz.prog 31 #[mV m ad cap, .slice al l.length cl, .int .i64 n] w fun r w' => ∃ v, r = .returned (.tuple #[v, .int .i64 (stepsE m l n)]) ∧ OwnI w.heap.size w' v (if stepsE m l n = 0 then l.map (fun s => itM m s n.toNat) else []) ∧ Below w.heap.size w w' := by
 have hcap := hL.le
 have hmx := hL.max
 have hS := ((SL.nil w).box (.cells (mC m ad cap) 24)).box (.cells #[.int .i64 n] 3)
 simp only [World.size_alloc] at hS
 have q1 := (hS.blk 1 rfl).1
 have q0 := (hS.blk 0 rfl).1
 have R1 := hR.below hS.b
 have L1 := hL.below hS.b
 unfold ChkL at HK
 by_cases he : loadE m l = 0
 ·have hok := loadE_zero he
  by_cases c1 : n < 0
  ·have d1 : decide (n < 0) = true := decide_eq_true c1
   have hv : stepsE m l n = 3 := by unfold stepsE; rw [if_neg (by simp [he]), if_pos (.inl c1)]
   rw [he] at HK
   rw [hv]
   clear hv he hok c1
   go_enter Tryz.func31, Tryz.ntmps31
   go_wp2_with fail
   refine wp_region_qt 10 kR kR ?_
   simp only [List.take_succ_cons, List.take_zero, List.drop_succ_cons, List.drop_zero]
   repeat (first | ((with_reducible refine wpB_loadS (n := 4) (us := mC m ad cap) A_mach kR wU wU (by assumption) wU wU ?_); (try simp only [Act.put, pA, pB, pC])) | ((with_reducible refine wpB_load F_int wU wU (by assumption) wU ?_); (try simp only [Act.put, pA, pB, pC])) | ((refine wpB_call (.int .i64 0) wU (fun w' => ?_) (fun w' hw' => HK w' (R1.below hw') (L1.below hw')) ?_); (focus (go_simp; done)); (try simp only [Act.put, pA, pB, pC])) | ((with_reducible refine wpB_when wU wU wU ?_); (try simp only [Act.put, pA, pB, pC])) | ((with_reducible refine wpQ_skip wU ?_); (try simp only [Act.put, pA, pB, pC])) |  ((with_reducible refine wpB_load (by first | exact F_int | fail) wU wU (by assumption) wU ?_); (try simp only [Act.put, pA, pB, pC])) | ((with_reducible refine wpB_loadS (n := 2) (us := #[_, _]) (by fail) kR wU wU (by assumption) wU wU ?_); (try simp only [Act.put, pA, pB, pC])) | ((with_reducible refine wpB_loadS (n := 4) (us := #[_, _, _, _]) (by fail) kR wU wU (by assumption) wU wU ?_); (try simp only [Act.put, pA, pB, pC])) | ((refine wpQ_oneG ?_ wU (fun w' => ?_) ?_); rotate_left; (go_simp; rfl); (try simp only [Act.put, pA, pB, pC])))
   refine wpQuiet_nil ?_
   intro w1 hb1
   have hS2 := hS.mono hb1
   go_wp2_with (go_at_call 55; refine (mfirst_any _ _ [_, _] _ (reps_newN cIntS [_, _] 2 rfl (by decide) _ _ (by simp) rfl)).mono ?_; rw [firstE_z, firstE_head (by decide)]; rintro e w' ⟨rfl, rfl⟩)
   go_ret2
   exact ⟨_, rfl, own_nil cIntS, bal hS2.b _⟩
  have d1 : decide (n < 0) = false := decide_eq_false c1
  by_cases c2 : 999999999 < n
  ·have d2 : decide (999999999 < n) = true := decide_eq_true c2
   have hv : stepsE m l n = 3 := by unfold stepsE; rw [if_neg (by simp [he]), if_pos (.inr c2)]
   rw [he] at HK
   rw [hv]
   clear hv he hok c2
   go_enter Tryz.func31, Tryz.ntmps31
   go_wp2_with fail
   refine wp_region_qt 10 kR kR ?_
   simp only [List.take_succ_cons, List.take_zero, List.drop_succ_cons, List.drop_zero]
   repeat (first | ((with_reducible refine wpB_loadS (n := 4) (us := mC m ad cap) A_mach kR wU wU (by assumption) wU wU ?_); (try simp only [Act.put, pA, pB, pC])) | ((with_reducible refine wpB_load F_int wU wU (by assumption) wU ?_); (try simp only [Act.put, pA, pB, pC])) | ((refine wpB_call (.int .i64 0) wU (fun w' => ?_) (fun w' hw' => HK w' (R1.below hw') (L1.below hw')) ?_); (focus (go_simp; done)); (try simp only [Act.put, pA, pB, pC])) | ((with_reducible refine wpB_when wU wU wU ?_); (try simp only [Act.put, pA, pB, pC])) | ((with_reducible refine wpQ_skip wU ?_); (try simp only [Act.put, pA, pB, pC])) |  ((with_reducible refine wpB_load (by first | exact F_int | fail) wU wU (by assumption) wU ?_); (try simp only [Act.put, pA, pB, pC])) | ((with_reducible refine wpB_loadS (n := 2) (us := #[_, _]) (by fail) kR wU wU (by assumption) wU wU ?_); (try simp only [Act.put, pA, pB, pC])) | ((with_reducible refine wpB_loadS (n := 4) (us := #[_, _, _, _]) (by fail) kR wU wU (by assumption) wU wU ?_); (try simp only [Act.put, pA, pB, pC])) | ((refine wpQ_oneG ?_ wU (fun w' => ?_) ?_); rotate_left; (go_simp; rfl); (try simp only [Act.put, pA, pB, pC])))
   refine wpQuiet_nil ?_
   intro w1 hb1
   have hS2 := hS.mono hb1
   go_wp2_with (go_at_call 55; refine (mfirst_any _ _ [_, _] _ (reps_newN cIntS [_, _] 2 rfl (by decide) _ _ (by simp) rfl)).mono ?_; rw [firstE_z, firstE_head (by decide)]; rintro e w' ⟨rfl, rfl⟩)
   go_ret2
   exact ⟨_, rfl, own_nil cIntS, bal hS2.b _⟩
  ·have d2 : decide (999999999 < n) = false := decide_eq_false c2
   have hv : stepsE m l n = 0 := by unfold stepsE; rw [if_neg (by simp [he]), if_neg (by omega)]
   rw [he] at HK
   rw [hv, if_pos rfl]
   have hrng := hok.rng
   have hhi := hok.ok.hi
   have hfew := hok.few
   have HRNG := hid hrng
   clear hv he hok hrng
   go_enter Tryz.func31, Tryz.ntmps31
   go_wp2_with fail
   refine wp_region_qt 10 kR kR ?_
   simp only [List.take_succ_cons, List.take_zero, List.drop_succ_cons, List.drop_zero]
   repeat (first | ((with_reducible refine wpB_loadS (n := 4) (us := mC m ad cap) A_mach kR wU wU (by assumption) wU wU ?_); (try simp only [Act.put, pA, pB, pC])) | ((with_reducible refine wpB_load F_int wU wU (by assumption) wU ?_); (try simp only [Act.put, pA, pB, pC])) | ((refine wpB_call (.int .i64 0) wU (fun w' => ?_) (fun w' hw' => HK w' (R1.below hw') (L1.below hw')) ?_); (focus (go_simp; done)); (try simp only [Act.put, pA, pB, pC])) | ((with_reducible refine wpB_when wU wU wU ?_); (try simp only [Act.put, pA, pB, pC])) | ((with_reducible refine wpQ_skip wU ?_); (try simp only [Act.put, pA, pB, pC])) |  ((with_reducible refine wpB_load (by first | exact F_int | fail) wU wU (by assumption) wU ?_); (try simp only [Act.put, pA, pB, pC])) | ((with_reducible refine wpB_loadS (n := 2) (us := #[_, _]) (by fail) kR wU wU (by assumption) wU wU ?_); (try simp only [Act.put, pA, pB, pC])) | ((with_reducible refine wpB_loadS (n := 4) (us := #[_, _, _, _]) (by fail) kR wU wU (by assumption) wU wU ?_); (try simp only [Act.put, pA, pB, pC])) | ((refine wpQ_oneG ?_ wU (fun w' => ?_) ?_); rotate_left; (go_simp; rfl); (try simp only [Act.put, pA, pB, pC])))
   refine wpQuiet_nil ?_
   intro w1 hb1
   have hS2 := hS.mono hb1
   go_wp2_with (go_at_call 55; refine (mfirst_any _ _ [_, _] _ (reps_newN cIntS [_, _] 2 rfl (by decide) _ _ (by simp) rfl)).mono ?_; rw [firstE_z, firstE_z, firstE_nil]; rintro e w' ⟨rfl, rfl⟩)
   have hS4 := hS2.al (.cells #[.int .i64 0, .int .i64 0] 34)
   have q5 := (hS4.blk 1 rfl).1
   have q4 := (hS4.blk 0 rfl).1
   have t4 := hS4.b
   refine (mappedS_any _ _ (fun s => itM m s n.toNat) al cl l _ (hL.below t4) (by omega) (fun x hx w' hw' => ?_)).mono ?_
   ·refine steps1_any m ad cap _ _ x n w' ?_ ?_ ((hR.below t4).below hw') hhi (HRNG.out x hx).1 (HRNG.out x hx).2 (by omega) (by omega)
    ·exact (hw'.block _ (hS4.blk 1 rfl).2.2).trans q5
    ·exact (hw'.block _ (hS4.blk 0 rfl).2.2).trans q4
   rintro e w5 ⟨v, rfl, ho, b5⟩
   go_wp2_with fail
   go_ret2
   exact ⟨_, rfl, ho.mono t4.size, bnext t4 b5⟩
 ·obtain ⟨E, hE⟩ : ∃ E, E = loadE m l := ⟨_, rfl⟩
  have hv : stepsE m l n = E := by unfold stepsE; rw [if_pos he, hE]
  rw [← hE] at HK he
  have hne : (E != 0) = true := by simpa using he
  rw [hv, if_neg he]
  clear hv hE
  cases d1 : decide (n < 0)
  ·go_enter Tryz.func31, Tryz.ntmps31
   go_wp2_with fail
   refine wp_region_qt 10 kR kR ?_
   simp only [List.take_succ_cons, List.take_zero, List.drop_succ_cons, List.drop_zero]
   repeat (first | ((with_reducible refine wpB_loadS (n := 4) (us := mC m ad cap) A_mach kR wU wU (by assumption) wU wU ?_); (try simp only [Act.put, pA, pB, pC])) | ((with_reducible refine wpB_load F_int wU wU (by assumption) wU ?_); (try simp only [Act.put, pA, pB, pC])) | ((refine wpB_call (.int .i64 E) wU (fun w' => ?_) (fun w' hw' => HK w' (R1.below hw') (L1.below hw')) ?_); (focus (go_simp; done)); (try simp only [Act.put, pA, pB, pC])) | ((with_reducible refine wpB_when wU wU wU ?_); (try simp only [Act.put, pA, pB, pC])) | ((with_reducible refine wpQ_skip wU ?_); (try simp only [Act.put, pA, pB, pC])) |  ((with_reducible refine wpB_load (by first | exact F_int | fail) wU wU (by assumption) wU ?_); (try simp only [Act.put, pA, pB, pC])) | ((with_reducible refine wpB_loadS (n := 2) (us := #[_, _]) (by fail) kR wU wU (by assumption) wU wU ?_); (try simp only [Act.put, pA, pB, pC])) | ((with_reducible refine wpB_loadS (n := 4) (us := #[_, _, _, _]) (by fail) kR wU wU (by assumption) wU wU ?_); (try simp only [Act.put, pA, pB, pC])) | ((refine wpQ_oneG ?_ wU (fun w' => ?_) ?_); rotate_left; (go_simp; rfl); (try simp only [Act.put, pA, pB, pC])))
   refine wpQuiet_nil ?_
   intro w1 hb1
   have hS2 := hS.mono hb1
   go_wp2_with (go_at_call 55; refine (mfirst_any _ _ [_, _] _ (reps_newN cIntS [_, _] 2 rfl (by decide) _ _ (by simp) rfl)).mono ?_; rw [firstE_head he]; rintro e w' ⟨rfl, rfl⟩)
   all_goals go_ret2
   all_goals exact ⟨_, rfl, own_nil cIntS, bal hS2.b _⟩
  ·go_enter Tryz.func31, Tryz.ntmps31
   go_wp2_with fail
   refine wp_region_qt 10 kR kR ?_
   simp only [List.take_succ_cons, List.take_zero, List.drop_succ_cons, List.drop_zero]
   repeat (first | ((with_reducible refine wpB_loadS (n := 4) (us := mC m ad cap) A_mach kR wU wU (by assumption) wU wU ?_); (try simp only [Act.put, pA, pB, pC])) | ((with_reducible refine wpB_load F_int wU wU (by assumption) wU ?_); (try simp only [Act.put, pA, pB, pC])) | ((refine wpB_call (.int .i64 E) wU (fun w' => ?_) (fun w' hw' => HK w' (R1.below hw') (L1.below hw')) ?_); (focus (go_simp; done)); (try simp only [Act.put, pA, pB, pC])) | ((with_reducible refine wpB_when wU wU wU ?_); (try simp only [Act.put, pA, pB, pC])) | ((with_reducible refine wpQ_skip wU ?_); (try simp only [Act.put, pA, pB, pC])) |  ((with_reducible refine wpB_load (by first | exact F_int | fail) wU wU (by assumption) wU ?_); (try simp only [Act.put, pA, pB, pC])) | ((with_reducible refine wpB_loadS (n := 2) (us := #[_, _]) (by fail) kR wU wU (by assumption) wU wU ?_); (try simp only [Act.put, pA, pB, pC])) | ((with_reducible refine wpB_loadS (n := 4) (us := #[_, _, _, _]) (by fail) kR wU wU (by assumption) wU wU ?_); (try simp only [Act.put, pA, pB, pC])) | ((refine wpQ_oneG ?_ wU (fun w' => ?_) ?_); rotate_left; (go_simp; rfl); (try simp only [Act.put, pA, pB, pC])))
   refine wpQuiet_nil ?_
   intro w1 hb1
   have hS2 := hS.mono hb1
   go_wp2_with (go_at_call 55; refine (mfirst_any _ _ [_, _] _ (reps_newN cIntS [_, _] 2 rfl (by decide) _ _ (by simp) rfl)).mono ?_; rw [firstE_head he]; rintro e w' ⟨rfl, rfl⟩)
   all_goals go_ret2
   all_goals exact ⟨_, rfl, own_nil cIntS, bal hS2.b _⟩
end Go.Proofs.YtglpfpdomnllkaaGreat

namespace Go.Proofs.YtglpfpdomnllkaaGreat
open Go.RowKit
set_option maxHeartbeats 1000000
set_option maxRecDepth 100000

open Go.Maps in
theorem CntD.step {D : DataW Unit} {l : List Int} (h : CntD D l) {x : Int} (hk : WideAt.IsKeyLit (.int .i64 x)) : CntD (D.put (.int .i64 x) (.lit (.int .i64 ((l.count x : Int) + 1)))) (l ++ [x]) := by
 refine ⟨h.map.put _ _, fun kl => ?_, fun y hy z => ?_⟩
 ·by_cases e : kl = .int .i64 x
  ·subst e
   rw [has_put_same h.map hk]
   simp
  ·rw [has_put_other e, h.key]
   constructor
   ·rintro ⟨y, hy, rfl⟩; exact ⟨y, by simp [hy], rfl⟩
   ·rintro ⟨y, hy, rfl⟩
    rcases List.mem_append.1 hy with hy | hy
    ·exact ⟨y, hy, rfl⟩
    ·simp only [List.mem_singleton] at hy
     subst hy; exact absurd rfl e
 ·by_cases e : y = x
  ·subst e
   rw [atKey_put_same h.map hk]
   simp
  ·have hy2 : y ∈ l := by
    rcases List.mem_append.1 hy with hy | hy
    ·exact hy
    ·simp only [List.mem_singleton] at hy; exact absurd hy e
   rw [atKey_put_other (fun e2 => e (by cases e2; rfl)), h.cnt y hy2]
   have : ([x] : List Int).count y = 0 := List.count_eq_zero.2 (by simpa using e)
   rw [List.count_append, this, Nat.add_zero]
open Go.Maps in
theorem CntD.same {D E : DataW Unit} {l m : List Int} (h : CntD D l) (k : CntD E m) (cD : Canon D) (cE : Canon E) (hc : ∀ x, m.count x = l.count x) : D = E := by
 have hm : ∀ x, x ∈ l ↔ x ∈ m := fun x => by rw [← List.count_pos_iff, ← List.count_pos_iff, hc]
 have hh : ∀ kl, has D kl = has E kl := fun kl => by
  rw [Bool.eq_iff_iff, h.key, k.key]
  constructor
  ·rintro ⟨x, a, b⟩; exact ⟨x, (hm x).1 a, b⟩
  ·rintro ⟨x, a, b⟩; exact ⟨x, (hm x).2 a, b⟩
 refine ext cD cE hh (fun kl z hk => ?_)
 obtain ⟨x, hx, rfl⟩ := (h.key kl).1 hk
 rw [h.cnt x hx, k.cnt x ((hm x).1 hx), hc]
end Go.Proofs.YtglpfpdomnllkaaGreat

namespace Go.Proofs.YtglpfpdomnllkaaGreat
open Go.RowKit Go.Maps
set_option maxRecDepth 100000

def pCnt (k n : Nat) (l : List Int) : Pc where
 P w b := b = some k ∧ CntM w k n l
 lt w j h := by obtain ⟨h1, h2⟩ := h; cases h1; exact h2.lt
 loc w w' row b h hg hne := ⟨h.1, h.2.kept hg (fun e => hne k h.1 e.symm)⟩
theorem SL.cnt {B : Nat} {w0 w : World} {L : List Pc} {k n : Nat} {l : List Int} (h : SL B w0 w L) (i : Nat) (hi : L[i]? = some (pCnt k n l)) : CntM w k n l := by
 obtain ⟨b, ⟨_, h1⟩, _⟩ := h.upd i hi
 exact h1
section
variable {ops : Array Oper} {rest : List Oper} {a : Act} {Q : Exit → Act → World → Prop} {d : Option Tmp} {ty : TypeId} {p : String} {m x y : Operand} {af : Array Edge} {g : Option (Nat × Bool)} {b n B : Nat} {k : Int} {w0 w : World} {L : List Pc} {l : List Int}
end
section
variable {P : Program} {ops : Array Oper} {rest : List Oper} {a : Act} {α : Type} {c : α → Value} {sz bytes : Nat} {t e t2 e2 : TypeId} {z : Value} {ad : Option Addr} {cap n : Nat} {l : List α} {k : Int} {w : World}
 {d1 d2 d3 : Tmp} {ty1 ty2 ty3 : TypeId} {p1 p2 p3 : String} {s x : Operand} {af1 af2 af3 : Array Edge} {j : Nat} {g1 g2 g3 : Option (Nat × Bool)}
end
section
variable {P : Program} {ops : Array Oper} {a : Act} {ty : TypeId} {p : String} {af : Array Edge} {g : Option (Nat × Bool)} {d : Tmp} {C : World → Prop}
theorem yieldsK_cellC {e : TypeId} {s : Operand} {x : Addr} {v : Value} (hF : Flat P e) (hb : ∀ w, C w → w.cell? x = some v) (hg : Region.wanted (⟨some d, .load e s, ty, p, af, g⟩ : Oper) (yielded ops a.tmps) = true) (hs : a.eval s = .pointer (some x)) :
  YieldsK P ops C ⟨some d, .load e s, ty, p, af, g⟩ v a :=
 .inl ⟨hg, fun w' hw' => by simp [execOp, hs, run_loadAt_cell w' hF (hb w' hw'), Result.andThen]⟩
end
end Go.Proofs.YtglpfpdomnllkaaGreat

namespace Go.Proofs.YtglpfpdomnllkaaGreat
open Go.RowKit
set_option maxHeartbeats 8000000
set_option maxRecDepth 100000

section
variable {P : Program} {ops : Array Oper} {a : Act} {ty : TypeId} {p : String} {af : Array Edge} {g : Option (Nat × Bool)} {d : Tmp} {C : World → Prop}
theorem yieldsK_blkC {e : TypeId} {s : Operand} {b n : Nat} {us : Array Value} {T : TypeId} {fr : Nat × Nat} (hF : Aggr P e) (hn : (P.info? e).map (·.size) = some n) (hb : ∀ w, C w → w.heap[b]? = some (.cells us T fr)) (hz : us.size = n)
   (hg : Region.wanted (⟨some d, .load e s, ty, p, af, g⟩ : Oper) (yielded ops a.tmps) = true) (hs : a.eval s = .pointer (some ⟨b, 0, none⟩)) : YieldsK P ops C ⟨some d, .load e s, ty, p, af, g⟩ (.agg us) a := by
 obtain ⟨i, hi, hs2⟩ : ∃ i, P.info? e = some i ∧ i.size = n := by
  cases hi : P.info? e with
  | none => rw [hi] at hn; cases hn
  | some i => rw [hi] at hn; exact ⟨i, rfl, by simpa using hn⟩
 refine .inl ⟨hg, fun w' hw' => ?_⟩
 have hb2 := hb w' hw'
 have := run_loadAt_agg (a := ⟨b, 0, none⟩) w' hF hi (cs := us.toList) (by simp [hs2, hz]) (fun j v hj => by
  have hj2 : us[j]? = some v := by simpa using hj
  rw [Addr.add_z]
  simp [World.cell?, hb2, hj2])
 simp [execOp, hs, this, Result.andThen]
end

end Go.Proofs.YtglpfpdomnllkaaGreat
