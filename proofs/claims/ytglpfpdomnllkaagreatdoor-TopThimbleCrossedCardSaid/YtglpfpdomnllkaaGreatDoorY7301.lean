/- Contracts and plain facts that the claim uses (MemA TyA QA SlA PlB Lib1 PaA PaB SmA SnA Ps1 RE RlA TxA LtA). Conditions: as each one states. -/
import Derived.WalkKit
import Derived.WalkSpells
import Derived.Maps.AppendAt
import Derived.Deep.Quiet
import Derived.Test.YtglpfpdomnllkaaGreatDoorProg
import Derived.Maps.Own
import Derived.Maps.OwnSet
import Derived.Maps.Views
import Derived.WalkLawsBesides
import Derived.Laws.EntriesVeiled
import Derived.Deep.QuietTactic
import Derived.BigQuiet
import Derived.RangeFuncNested
import Derived.RangeFuncBound
import Derived.RangeFuncCalls
import Derived.RangeFuncLeaves
import Derived.RangeFuncFrom
import Derived.Shelf.Abstract
import Derived.Shelf.RegionOpen
import Derived.OwnWalkIn
import Derived.TacticsInMore
import Derived.LoopNIn
import Derived.LoopIn
import Derived.Shelf.Strings.Trim
import Derived.Shelf.Strings.SlTrimAscii
import Derived.Shelf.Strings.Repeat
import Derived.Shelf.Strings.OnBuilder
import Derived.Shelf.Strconv.Itoa1
import Derived.Shelf.Strconv.Itoa3
import Derived.Shelf.LaysM
import Derived.Ground.Names2Prog
import Derived.Lib.OthersKept
import Derived.Deep.RegionHeld3
import Derived.Deep.AppendLies
import Derived.Deep.RegionHeldLaw
import Derived.Deep.RegionLaw
import Derived.StillTail
import Derived.Laws.Tables
import Derived.Lib.ItoaLen
import Derived.Lib.ItoaMem
import Derived.IntWalk
import Derived.Laws.CopyOwn
import Derived.BigRegion
import Derived.ChangeAlike
import Derived.Shelf.Bits.Mul64
import Derived.Sort.LoopGhostIn
import Derived.Maps.RangeWalk
import Derived.Test.YtglpfpdomnllkaaGreatDoorXd01
import Derived.Test.YtglpfpdomnllkaaGreatDoorXd02
import Derived.Test.YtglpfpdomnllkaaGreatDoorXd03
import Derived.Test.YtglpfpdomnllkaaGreatDoorXd04
set_option linter.all false

namespace Go.Proofs.YtglpfpdomnllkaaGreatDoor
open Go.RowKit
section
variable {α : Type} {c : α → Value} {sz : Nat} {w w' : World} {a : Option Addr} {cap : Nat} {l : List α}
end

section
variable {P : Program} {ops : Array Oper} {rest : List Oper} {a : Act} {Q : Exit → Act → World → Prop} {α : Type} {c : α → Value} {sz bytes : Nat} {t e : TypeId} {z : Value} {ad : Option Addr} {cap : Nat} {l : List α} {k : Int}
 {d1 d2 : Tmp} {ty1 ty2 : TypeId} {p1 p2 : String} {s x : Operand} {af1 af2 : Array Edge}

theorem wpQ_skip {C : World → Prop} {Qa : Act → Prop} {o : Oper} (hg : Region.wanted o (yielded ops a.tmps) = false) (h : wpQuiet P ops C Qa rest (a.put o.dst undef)) : wpQuiet P ops C Qa (o :: rest) a := by
 unfold wpQuiet
 rw [if_neg (by simp [hg])]
 exact h

end
end Go.Proofs.YtglpfpdomnllkaaGreatDoor

namespace Go.Proofs.YtglpfpdomnllkaaGreatDoor
open Go.RowKit

section
variable {P : Program} {α : Type} {c : α → Value} {sz bytes B : Nat} {t e : TypeId} {z v : Value} {w w' : World} {l : List α}

theorem below_own {W : World} (h : Below W.heap.size W w) (hg : w.grownBy w' v.ownBlock) (ho : Own c sz B e w v l) (hB : W.heap.size ≤ B) : Below W.heap.size W w' :=
 h.grown hg h.size (fun k hk => Nat.le_trans hB (ho.lt k hk).1)
theorem wpList_store {ops : Array Oper} {rest : List Oper} {a : Act} {Q : Exit → Act → World → Prop} {d1 : Tmp} {ty1 ty2 : TypeId} {p1 p2 : String} {s x y : Operand} {af1 af2 : Array Edge} {ad : Option Addr} {cap : Nat} {k : Int} (u : α)
   (E : ETy P t e z 1 bytes) (hc1 : ∀ x, (c x).cells = #[c x]) (hsto : ∀ (w : World) (p : Addr), (w.cell? p).isSome = true → w.frozen? p = false → (Instr.storeAt e (.pointer (some p)) (c u)).run P w = .ok () (w.setCell p (c u)))
   (hs : a.eval s = .slice ad l.length cap) (hx : a.eval x = .int .i64 k) (hO : Own c 1 B e w (.slice ad l.length cap) l) (h0 : 0 ≤ k) (hk : k < l.length)
   (hd : ∀ p, (a.put (some d1) p).eval (.tmp d1) = p) (hy : ∀ p, (a.put (some d1) p).eval y = c u)
   (hK : ∀ p w', Own c 1 B e w' (.slice ad l.length cap) (l.set k.toNat u) → w.grownBy w' (Value.slice ad l.length cap).ownBlock → wpList P ops Q rest ((a.put (some d1) p).put none undef) w') :
   wpList P ops Q (⟨some d1, .indexAddr t s x, ty1, p1, af1, none⟩ :: ⟨none, .store e (.tmp d1) y, ty2, p2, af2, none⟩ :: rest) a w := by
 obtain ⟨g, rfl, hB, hcell, hfr, hO', hg⟩ := own_store hc1 hO u k h0 hk
 refine wpList_plain rfl fun K hK' => ?_
 have h1 := run_indexAt_sl (P := P) (a := ⟨g, 0, none⟩) (cap := cap) w E h0 hk
 unfold Oper.wp
 simp only [execOp, hs, hx]
 simp [h1, Result.andThen]
 refine hK' _ _ (wpList_plain rfl fun K2 hK2 => ?_)
 unfold Oper.wp
 simp only [execOp, hd, hy]
 have h2 := hsto w ⟨g, k.toNat, none⟩ hcell hfr
 rw [Addr.add_z, Nat.zero_add]
 simp [h2, Result.andThen]
 exact hK2 _ _ (hK _ _ hO' hg)

theorem run_bounds {n cap i j : Nat} {lo hi : Option Value} (hlo : lo = some (.int .i64 i) ∨ lo = none ∧ i = 0) (hhi : hi = some (.int .i64 j) ∨ hi = none ∧ j = n) (hij : i ≤ j) (hj : j ≤ cap) :
   (Instr.sliceBounds true n cap lo hi none).run P w = .ok (i, j, cap) w := by
 have q0 : (0 : Int) ≤ (i : Int) := by omega
 have q1 : (0 : Int) ≤ (j : Int) := by omega
 have b1 : ∀ m : Nat, (m : Int) ≤ j ∨ True := fun _ => .inr trivial
 have r1 : ∀ c, (Instr.sliceBound (.int .i64 i) j c).run P w = .ok i w := fun c => by rw [run_sliceBound _ _ _ _ _ q0 (by omega)]; simp
 have r2 : ∀ c, (Instr.sliceBound (.int .i64 j) cap c).run P w = .ok j w := fun c => by rw [run_sliceBound _ _ _ _ _ q1 (by omega)]; simp
 rcases hlo with rfl | ⟨rfl, rfl⟩ <;> rcases hhi with rfl | ⟨rfl, rfl⟩ <;> simp [Instr.sliceBounds, r1, r2]

/-- 's[lo:hi]' of a readable slice. -/
theorem run_cut {a : Option Addr} {cap : Nat} (E : ETy P t e z sz bytes) (hR : Reps c sz w a cap l) (lo hi : Option Value) (i j : Nat) (hlo : lo = some (.int .i64 i) ∨ lo = none ∧ i = 0) (hhi : hi = some (.int .i64 j) ∨ hi = none ∧ j = l.length) (hij : i ≤ j) (hj : j ≤ l.length) :
   ∃ a', (Instr.sliceAt t (.slice a l.length cap) lo hi none).run P w = .ok (.slice a' (j - i) (cap - i)) w ∧ Reps c sz w a' (cap - i) ((l.take j).drop i) ∧ (∀ b, a' = some b → ∃ b0, a = some b0 ∧ b.block = b0.block) := by
 have hle := hR.le
 obtain ⟨inf, hinf, _, hs, _⟩ := info_parts E.inf
 have hlen : ((l.take j).drop i).length = j - i := by simp; omega
 refine ⟨if cap = i then a else a.map (·.add (i * sz)), ?_, ⟨hR.1, ?_⟩, ?_⟩
 ·simp [Instr.sliceAt, run_underlying E.und, Instr.slice, run_bounds hlo hhi hij (Nat.le_trans hj hle), sizeOf, typeInfo, hinf, hs]
 ·obtain ⟨h1, h2, h3, h4⟩ := hR.2
  have hg : ∀ x, ((c x).cells.toList).length = sz := fun x => by simpa using hR.1 x
  have hdrop : ∀ (l : List α) (i : Nat), ((l.drop i).flatMap fun x => (c x).cells.toList) = (l.flatMap fun x => (c x).cells.toList).drop (i * sz) := by
   intro l
   induction l with
   | nil => intro i; simp
   | cons x r ih =>
    intro i
    cases i with
    | zero => simp
    | succ i => rw [List.drop_succ_cons, ih, List.flatMap_cons, List.drop_append, (show (c x).cells.toList.drop ((i + 1) * sz) = [] from List.drop_eq_nil_of_le (by rw [hg, Nat.add_mul]; omega)), List.nil_append, hg]; congr 1; rw [Nat.add_mul]; omega
  have htake : ∀ (l : List α) (j : Nat) (q : Nat) (u : Value), ((l.take j).flatMap fun x => (c x).cells.toList)[q]? = some u → (l.flatMap fun x => (c x).cells.toList)[q]? = some u := by
   intro l j q u hu
   rw [← List.take_append_drop j l, List.flatMap_append, List.getElem?_append_left]
   ·exact hu
   ·exact (List.getElem?_eq_some_iff.1 hu).1
  refine ⟨by omega, by omega, fun hn => ?_, fun q u hu => ?_⟩
  ·split at hn
   ·omega
   ·cases a with
    | none => have := h3 rfl; omega
    | some b => cases hn
  ·rw [hdrop, List.getElem?_drop] at hu
   have hu' := htake l j _ u hu
   obtain ⟨b, o, rfl, hc⟩ := h4 _ u hu'
   have hlt := (List.getElem?_eq_some_iff.1 hu').1
   rw [flat_len _ sz hg] at hlt
   have hci : ¬ cap = i := by
    intro hh
    have : l.length ≤ i := by omega
    have := Nat.mul_le_mul_right sz this
    omega
   rw [if_neg hci]
   exact ⟨b, o + i * sz, by simp [Addr.add_z], by rw [Nat.add_assoc]; exact hc⟩
 ·intro b hb
  split at hb
  ·exact ⟨b, hb, rfl⟩
  ·cases a with
   | none => cases hb
   | some b0 => cases hb; exact ⟨b0, rfl, by simp [Addr.add]; split <;> rfl⟩
end
end Go.Proofs.YtglpfpdomnllkaaGreatDoor

namespace Go.Proofs.YtglpfpdomnllkaaGreatDoor
open Go.RowKit

end Go.Proofs.YtglpfpdomnllkaaGreatDoor

namespace Go.Proofs.YtglpfpdomnllkaaGreatDoor
open Go.RowKit
end Go.Proofs.YtglpfpdomnllkaaGreatDoor

namespace Go.Proofs.YtglpfpdomnllkaaGreatDoor
open Go.RowKit
set_option maxRecDepth 100000

def lenV : Value → Nat | .slice _ n _ => n | _ => 0
theorem sto_int (u : Int) (w : World) (p : Addr) (h1 : (w.cell? p).isSome = true) (h2 : w.frozen? p = false) : (Instr.storeAt 3 (.pointer (some p)) (cInt u)).run Tryz.prog w = .ok () (w.setCell p (cInt u)) := by
 obtain ⟨v, hv⟩ := Option.isSome_iff_exists.1 h1
 simp [go_sem, hv, h2]
end Go.Proofs.YtglpfpdomnllkaaGreatDoor

namespace Go.Proofs.YtglpfpdomnllkaaGreatDoor
open Go.RowKit
section
variable {P : Program} {ops : Array Oper} {rest : List Oper} {a : Act} {α : Type} {c : α → Value} {sz bytes : Nat} {t e : TypeId} {z : Value} {ad : Option Addr} {cap : Nat} {l : List α} {k : Int}
 {d1 d2 : Tmp} {ty1 ty2 : TypeId} {p1 p2 : String} {s x : Operand} {af1 af2 : Array Edge} {Qa : Act → Prop} {w : World}
end
end Go.Proofs.YtglpfpdomnllkaaGreatDoor

namespace Go.Proofs.YtglpfpdomnllkaaGreatDoor
open Go.RowKit
section
variable {P : Program} {ops : Array Oper} {rest : List Oper} {a : Act} {α : Type} {c : α → Value} {sz bytes n : Nat} {t e : TypeId} {z : Value} {ad : Option Addr} {cap : Nat} {l : List α} {k : Int}
 {d1 d2 : Tmp} {ty1 ty2 : TypeId} {p1 p2 : String} {s x : Operand} {af1 af2 : Array Edge} {g1 g2 : Option (Nat × Bool)} {Qa : Act → Prop} {w : World}
theorem wpQD_idxG (d : α) (E : ETy P t e z sz bytes) (hF : Flat P e) (hc : ∀ x, (c x).cells = #[c x])
   (hs : a.eval s = .slice ad n cap) (hx : a.eval x = .int .i64 k) (hR : Reps c sz w ad cap l) (hn : l.length = n) (h0 : 0 ≤ k) (hlt : k < n) (hd : ∀ p, (a.put (some d1) p).eval (.tmp d1) = p)
   (hw1 : Region.wanted ⟨some d1, .indexAddr t s x, ty1, p1, af1, g1⟩ (yielded ops a.tmps) = true) (hw2 : ∀ p, Region.wanted ⟨some d2, .load e (.tmp d1), ty2, p2, af2, g2⟩ (yielded ops (a.put (some d1) p).tmps) = true)
   (hK : ∀ p, wpQuiet P ops (fun w' => ∃ n, w' = w.drewN n) Qa rest ((a.put (some d1) p).put (some d2) (c (atD d l k)))) :
   wpQuiet P ops (fun w' => ∃ n, w' = w.drewN n) Qa (⟨some d1, .indexAddr t s x, ty1, p1, af1, g1⟩ :: ⟨some d2, .load e (.tmp d1), ty2, p2, af2, g2⟩ :: rest) a := by
 subst hn
 have hkl : k.toNat < l.length := by omega
 obtain ⟨b, o, rfl, hcs⟩ := hR.cells E.pos d k.toNat hkl
 have hcell := hcs 0 (c (atD d l k)) (by rw [show l.getD k.toNat d = atD d l k from rfl, hc]; rfl)
 refine wpQ_inG (.pointer (some ((⟨b, o, none⟩ : Addr).add (k.toNat * sz)))) hw1 (fun w' hw' => ?_) (wpQ_inG (c (atD d l k)) (hw2 _) (fun w' hw' => ?_) (hK _))
 ·have h1 := run_indexAt_sl (P := P) (a := ⟨b, o, none⟩) (cap := cap) w' E h0 hlt
  simp [execOp, hs, hx, h1, Result.andThen]
 ·have h2 := run_loadAt_cell (P := P) w' (a := (⟨b, o, none⟩ : Addr).add (k.toNat * sz)) (v := c (atD d l k)) hF (by
   rw [Addr.add_z]
   have hb := below_drewN hw'
   exact (hb.cell (World.block_lt_of_cell? w _ hcell)).trans hcell)
  simp [execOp, hd, h2, Result.andThen]
theorem wpList_idxG {Q : Exit → Act → World → Prop} (d : α) (E : ETy P t e z sz bytes) (hF : Flat P e) (hc : ∀ x, (c x).cells = #[c x])
   (hs : a.eval s = .slice ad n cap) (hx : a.eval x = .int .i64 k) (hR : Reps c sz w ad cap l) (hn : l.length = n) (h0 : 0 ≤ k) (hlt : k < n) (hd : ∀ p, (a.put (some d1) p).eval (.tmp d1) = p)
   (hw1 : Region.wanted ⟨some d1, .indexAddr t s x, ty1, p1, af1, g1⟩ (yielded ops a.tmps) = true) (hw2 : ∀ p, Region.wanted ⟨some d2, .load e (.tmp d1), ty2, p2, af2, g2⟩ (yielded ops (a.put (some d1) p).tmps) = true)
   (hK : ∀ p, wpList P ops Q rest ((a.put (some d1) p).put (some d2) (c (atD d l k))) w) :
   wpList P ops Q (⟨some d1, .indexAddr t s x, ty1, p1, af1, g1⟩ :: ⟨some d2, .load e (.tmp d1), ty2, p2, af2, g2⟩ :: rest) a w := by
 subst hn
 obtain ⟨p, hr1, hr2⟩ := run_idx_flat d E hF hR hc h0 hlt
 refine wpList_step fun K hK' => ?_
 rw [if_pos hw1]
 unfold Oper.wp
 simp only [execOp, hs, hx]
 simp [hr1, Result.andThen]
 refine hK' _ _ (wpList_step fun K2 hK2 => ?_)
 rw [if_pos (hw2 _)]
 unfold Oper.wp
 simp only [execOp, hd]
 simp [hr2, Result.andThen]
 exact hK2 _ _ (hK _)
theorem quiet_same {f : FuncId} {args : Array Value} {n : Nat} {v : Value}
  (h : Calls P f args (w.drewN n) fun e w' => e = .returned v ∧ w.drewN n = w') : Calls P f args (w.drewN n) fun e w'' => e = .returned v ∧ ∃ m, w'' = w.drewN m :=
 h.mono fun _ _ ⟨he, hm⟩ => ⟨he, n, hm.symm⟩
end
end Go.Proofs.YtglpfpdomnllkaaGreatDoor

namespace Go.Proofs.YtglpfpdomnllkaaGreatDoor
open Go.RowKit
set_option maxHeartbeats 1000000
set_option maxRecDepth 100000

end Go.Proofs.YtglpfpdomnllkaaGreatDoor

namespace Go.Proofs.YtglpfpdomnllkaaGreatDoor
open Go.RowKit
set_option maxRecDepth 100000

section
variable {B : Nat} {w0 w w' : World} {L K : List Pc}
end

section
variable {B : Nat} {w0 w w' : World} {L : List Pc} {α : Type} {c : α → Value} {sz : Nat} {e : TypeId} {v : Value} {l : List α}
end

section
variable {P : Program} {ops : Array Oper} {rest : List Oper} {a : Act} {Q : Exit → Act → World → Prop} {α : Type} {c : α → Value} {sz bytes B : Nat} {t e : TypeId} {z v : Value} {w0 w : World} {L : List Pc} {l : List α}
theorem wpList_storeL {d1 : Tmp} {ty1 ty2 : TypeId} {p1 p2 : String} {s x y : Operand} {af1 af2 : Array Edge} {ad : Option Addr} {n cap : Nat} {k : Int} {u : α} (i : Nat)
   (E : ETy P t e z 1 bytes) (hc1 : ∀ x, (c x).cells = #[c x]) (hsto : ∀ (u : α) (w : World) (p : Addr), (w.cell? p).isSome = true → w.frozen? p = false → (Instr.storeAt e (.pointer (some p)) (c u)).run P w = .ok () (w.setCell p (c u)))
   (hs : a.eval s = .slice ad n cap) (hx : a.eval x = .int .i64 k) (hS : SL B w0 w L) (hi : L[i]? = some (pOwn c 1 e (.slice ad n cap) l)) (h0 : 0 ≤ k) (hk : k < l.length)
   (hd : ∀ p, (a.put (some d1) p).eval (.tmp d1) = p) (hy : ∀ p, (a.put (some d1) p).eval y = c u)
   (hK : ∀ p w', SL B w0 w' (L.set i (pOwn c 1 e (.slice ad n cap) (l.set k.toNat u))) → wpList P ops Q rest ((a.put (some d1) p).put none undef) w') :
   wpList P ops Q (⟨some d1, .indexAddr t s x, ty1, p1, af1, none⟩ :: ⟨none, .store e (.tmp d1) y, ty2, p2, af2, none⟩ :: rest) a w := by
 obtain ⟨a', cap', e1, _⟩ := hS.slice i hi
 simp only [Value.slice.injEq] at e1
 obtain ⟨rfl, rfl, rfl⟩ := e1
 obtain ⟨b, ⟨h2, h3⟩, h4, h5⟩ := hS.upd i hi
 refine wpList_store (l := l) (B := 0) u E hc1 (hsto u) hs hx h2 h0 hk hd hy (fun p w' ho hg => hK p w' (h5 w' _ b (h3 ▸ hg) ⟨ho, h3⟩ (.inl rfl)))
end
section
variable {ops : Array Oper} {rest : List Oper} {a : Act} {Q : Exit → Act → World → Prop} {d : Option Tmp} {ty : TypeId} {p : String} {m x y : Operand} {af : Array Edge} {b n B : Nat} {k : Int} {w0 w : World} {L : List Pc}
end
end Go.Proofs.YtglpfpdomnllkaaGreatDoor

namespace Go.Proofs.YtglpfpdomnllkaaGreatDoor
open Go.RowKit
set_option maxRecDepth 100000

section
variable {B : Nat} {w0 w w' : World} {L K : List Pc}
theorem SL.weaken (h : SL B w0 w L) (i : Nat) {p : Pc} (hi : L[i]? = some p) (q : Pc) (hq : ∀ b, p.P w b → q.P w b) : SL B w0 w (L.set i q) := by
 obtain ⟨b, h1, h3, h4⟩ := h.upd i hi
 exact h4 w q b (World.grownBy.refl w _) (hq b h1) (.inl rfl)
end

section
variable {α : Type} {c : α → Value} {sz : Nat} {e : TypeId} {v : Value} {l : List α} {B : Nat} {W0 w : World} {L : List Pc}
end
end Go.Proofs.YtglpfpdomnllkaaGreatDoor

namespace Go.Proofs.YtglpfpdomnllkaaGreatDoor
open Go.RowKit
set_option maxHeartbeats 400000
set_option maxRecDepth 100000

end Go.Proofs.YtglpfpdomnllkaaGreatDoor

namespace Go.Proofs.YtglpfpdomnllkaaGreatDoor
open Go.RowKit
set_option maxHeartbeats 400000
set_option maxRecDepth 100000

theorem atD_mem {l : List Int} {k : Nat} (h : k < l.length) : atD 0 l k ∈ l := by simp [atD, h]
end Go.Proofs.YtglpfpdomnllkaaGreatDoor

namespace Go.Proofs.YtglpfpdomnllkaaGreatDoor
open Go.RowKit
set_option maxHeartbeats 400000
set_option maxRecDepth 100000

theorem ext_atD {l m : List Int} (h : l.length = m.length) (he : ∀ j : Int, 0 ≤ j → j < l.length → atD 0 l j = atD 0 m j) : l = m := by
 apply List.ext_getElem h
 intro i h1 h2
 have := he i (by omega) (by omega)
 simpa [atD, h1, h2] using this
theorem atD_set {l : List Int} {i j x : Int} (h0 : 0 ≤ i) (h1 : i < l.length) (hj : 0 ≤ j) : atD 0 (l.set i.toNat x) j = if j = i then x else atD 0 l j := by
 unfold atD
 rw [List.getD_eq_getElem?_getD, List.getElem?_set]
 by_cases h : j = i
 ·subst h; simp [show j.toNat < l.length by omega]
 ·rw [if_neg h, if_neg (by omega), List.getD_eq_getElem?_getD]
end Go.Proofs.YtglpfpdomnllkaaGreatDoor

namespace Go.Proofs.YtglpfpdomnllkaaGreatDoor
open Go.RowKit
set_option maxHeartbeats 400000
set_option maxRecDepth 100000

end Go.Proofs.YtglpfpdomnllkaaGreatDoor

namespace Go.Proofs
open Go.Shelf
open Go.RowKit Go.Sort Go.Lib in
/-- THE ROAD WITHOUT THE TABLE: 0 <= i < 100: NO PREMISE ON THE WORLD, AND THE WORLD IS AS IT WAS: a row that keeps its argument in that range need list no table ('laid = []'). (LAID: no walk: one application.) -/
theorem Tryz.strconv_Itoa_small (i : Nat) (hi : i < 100) (w : World) :
  Calls Tryz.prog 151 #[.int .i64 i] w fun e w' => e = .returned (.string ⟨(Lib.decDigits i).toArray⟩) ∧ w' = w := Any.strconv_Itoa_small Tryz.lays171 i hi w
def Tryz.lays105_ren : Go.Shelf.Ren := ⟨fun | 105 => 49 | 212 => 86 | 99 => 87 | 165 => 88 | 166 => 89 | 170 => 90 | 169 => 91 | 263 => 117 | 264 => 118 | 206 => 119 | 240 => 120 | 241 => 121 | 276 => 140 | 277 => 141 | n => n, fun | 9 => 9 | 3 => 3 | 4 => 4 | 20 => 20 | 0 => 0 | 46 => 123 | 109 => 124 | 5 => 5 | 72 => 130 | 76 => 133 | 51 => 162 | 146 => 163 | 53 => 165 | 148 => 166 | 70 => 127 | 37 => 128 | 75 => 132 | 127 => 168 | 164 => 181 | 80 => 135 | n => n, fun | n => n⟩
theorem Tryz.lays105 : Go.Proofs.Lays.n105 Tryz.prog Tryz.lays105_ren := {
 mixed := by kernel_rfl
 f99 := Tryz.func87.trans (congrArg some (by kernel_rfl))
 f105 := Tryz.func49.trans (congrArg some (by kernel_rfl))
 f165 := Tryz.func88.trans (congrArg some (by kernel_rfl))
 f166 := Tryz.func89.trans (congrArg some (by kernel_rfl))
 f169 := Tryz.func91.trans (congrArg some (by kernel_rfl))
 f170 := Tryz.func90.trans (congrArg some (by kernel_rfl))
 f206 := Tryz.func119.trans (congrArg some (by kernel_rfl))
 f212 := Tryz.func86.trans (congrArg some (by kernel_rfl))
 f240 := Tryz.func120.trans (congrArg some (by kernel_rfl))
 f241 := Tryz.func121.trans (congrArg some (by kernel_rfl))
 f263 := Tryz.func117.trans (congrArg some (by kernel_rfl))
 f264 := Tryz.func118.trans (congrArg some (by kernel_rfl))
 f276 := Tryz.func140.trans (congrArg some (by kernel_rfl))
 f277 := Tryz.func141.trans (congrArg some (by kernel_rfl))
 t0 := Tryz.underlying0
 a0 := Tryz.isAgg0
 z0 := Tryz.sizeOf0
 v0 := Tryz.zeroValue0
 t3 := Tryz.underlying3
 a3 := Tryz.isAgg3
 z3 := Tryz.sizeOf3
 v3 := Tryz.zeroValue3
 t4 := Tryz.underlying4
 a4 := Tryz.isAgg4
 z4 := Tryz.sizeOf4
 v4 := Tryz.zeroValue4
 t5 := Tryz.underlying5
 a5 := Tryz.isAgg5
 z5 := Tryz.sizeOf5
 v5 := Tryz.zeroValue5
 t9 := Tryz.underlying9
 a9 := Tryz.isAgg9
 z9 := Tryz.sizeOf9
 v9 := Tryz.zeroValue9
 t20 := Tryz.underlying20
 a20 := Tryz.isAgg20
 z20 := Tryz.sizeOf20
 v20 := Tryz.zeroValue20
 t37 := Tryz.underlying128
 a37 := Tryz.isAgg128
 z37 := Tryz.sizeOf128
 v37 := Tryz.zeroValue128
 t46 := Tryz.underlying123
 a46 := Tryz.isAgg123
 z46 := Tryz.sizeOf123
 v46 := Tryz.zeroValue123
 t51 := Tryz.underlying162
 a51 := Tryz.isAgg162
 z51 := Tryz.sizeOf162
 v51 := Tryz.zeroValue162
 t53 := Tryz.underlying165
 a53 := Tryz.isAgg165
 z53 := Tryz.sizeOf165
 v53 := Tryz.zeroValue165
 t70 := Tryz.underlying127
 a70 := Tryz.isAgg127
 z70 := Tryz.sizeOf127
 v70 := Tryz.zeroValue127
 t72 := Tryz.underlying130
 a72 := Tryz.isAgg130
 z72 := Tryz.sizeOf130
 v72 := Tryz.zeroValue130
 t75 := Tryz.underlying132
 a75 := Tryz.isAgg132
 z75 := Tryz.sizeOf132
 v75 := Tryz.zeroValue132
 t76 := Tryz.underlying133
 a76 := Tryz.isAgg133
 z76 := Tryz.sizeOf133
 v76 := Tryz.zeroValue133
 t109 := Tryz.underlying124
 a109 := Tryz.isAgg124
 z109 := Tryz.sizeOf124
 v109 := Tryz.zeroValue124
 t127 := Tryz.underlying168
 a127 := Tryz.isAgg168
 z127 := Tryz.sizeOf168
 v127 := Tryz.zeroValue168
 t146 := Tryz.underlying163
 a146 := Tryz.isAgg163
 z146 := Tryz.sizeOf163
 v146 := Tryz.zeroValue163
 t148 := Tryz.underlying166
 a148 := Tryz.isAgg166
 z148 := Tryz.sizeOf166
 v148 := Tryz.zeroValue166
 t164 := Tryz.underlying181
 a164 := Tryz.isAgg181
 z164 := Tryz.sizeOf181
 v164 := Tryz.zeroValue181 }
theorem Tryz.Builder_Extra_105 : Builder.Extra Tryz.prog Tryz.lays105_ren := {
 sizeBuilder := by kernel_rfl
 liesBuilder := by kernel_rfl
 t5 := Tryz.underlying5
 a5 := Tryz.isAgg5
 z5 := Tryz.sizeOf5
 v5 := Tryz.zeroValue5
 infoByte := by kernel_rfl
 cellsByte := by kernel_rfl
 sizeByte := by kernel_rfl
 neB5 := by decide }
open Go.RowKit Go.Lib in
/-- **strings.Repeat: count ≥ 0, the result within one allocation: count copies of s.** (LAID: no walk: one application.) -/
theorem Tryz.strings_Repeat (s : ByteArray) (c : Nat) (w : World) (hc : c ≤ 9223372036854775807) (hlen : s.size * c ≤ 140737488355328) :
  Calls Tryz.prog 49 #[.string s, .int .i64 c] w fun e w' => e = .returned (.string ⟨(Lib.repeatL s.data.toList c).toArray⟩) ∧ Below w.heap.size w w' := Any.strings_Repeat Tryz.lays105 Tryz.Builder_Extra_105 s c w hc hlen

end Go.Proofs

namespace Go.Proofs.YtglpfpdomnllkaaGreatDoor
open Go.RowKit
set_option maxHeartbeats 400000
set_option maxRecDepth 100000

instance : Inhabited PassV := ⟨⟨0, 0, ByteArray.empty⟩⟩
theorem cPassO (x : PassV) : ∀ u ∈ (cPass x).cells.toList, u.oneCell' = true := by
 intro u hu; simp [cPass, Value.cells] at hu; rcases hu with rfl | rfl | rfl <;> rfl
end Go.Proofs.YtglpfpdomnllkaaGreatDoor

namespace Go.Proofs.YtglpfpdomnllkaaGreatDoor
open Go.RowKit
set_option maxHeartbeats 400000
set_option maxRecDepth 100000

end Go.Proofs.YtglpfpdomnllkaaGreatDoor

namespace Go.Proofs.YtglpfpdomnllkaaGreatDoor
open Go.RowKit
set_option maxHeartbeats 400000
set_option maxRecDepth 100000

/-- how many letters from the k-th on follow the first one in a direction. -/
def runGo (l : List Int) (by_ : Int) : Nat → Nat → Nat
 | k, 0 => k
 | k, f + 1 => if k < l.length ∧ absI (atD 0 l k) = absI (atD 0 l 0) + by_ * k then runGo l by_ (k + 1) f else k
def runN (l : List Int) (by_ : Int) : Nat := runGo l by_ 1 l.length

theorem run_any (b : Int) (a : Option Addr) (cap : Nat) (l : List Int) (w : World) (hS : Ints w a cap l) (hb : b = 1 ∨ b = -1) (h0 : 0 < l.length) (hsm : l.length ≤ 1048576) (hL : ∀ k : Nat, k < l.length → -1000 ≤ atD 0 l k ∧ atD 0 l k ≤ 1000) :
  Calls Tryz.prog 30 #[.slice a l.length cap, .int .i64 b] w fun r w' => r = .returned (.int .i64 (runN l b)) ∧ Below w.heap.size w w' := by
 have hcap := hS.le
 have hm := hS.max
 go_enter Tryz.func30, Tryz.ntmps30
 go_wp2
 go_loopw [5] (fun i wr => ∃ k f : Nat, 1 ≤ k ∧ k ≤ l.length ∧ l.length ≤ k + f ∧ i = .int .i64 k ∧ runGo l b k f = runN l b ∧ Below w.heap.size w wr) (fun i _ => l.length - (intOf i).toNat)
 case atStart => exact ⟨1, l.length, by omega, by omega, by omega, rfl, rfl, Below.refl _ _⟩
 case round =>
  obtain ⟨k, f, hk1, hk, hf, rfl, hr, hbr⟩ := hrel
  have HR := hid hr; clear hr
  have hSr := hS.below hbr
  have hl0 := hL 0 h0
  by_cases hlt : k < l.length
  ·have hlk := hL k hlt
   have hd : decide (k < l.length) = true := by simpa using hlt
   have c1 : ∀ w' : World, Calls Tryz.prog 31 #[.int .i64 (atD 0 l k)] w' fun r w'' => r = .returned (.int .i64 (absI (atD 0 l k))) ∧ w' = w'' := fun w' => size_any _ w' (by omega) (by omega)
   have c2 : ∀ w' : World, Calls Tryz.prog 31 #[.int .i64 (atD 0 l 0)] w' fun r w'' => r = .returned (.int .i64 (absI (atD 0 l 0))) ∧ w' = w'' := fun w' => size_any _ w' (by simp at hl0; omega) (by simp at hl0; omega)
   have C1 := hid c1; clear c1
   have C2 := hid c2; clear c2
   go_wp2_with fail
   refine wp_region_quiet_lit kR kR ?_
   repeat (first | ((with_reducible refine wpQD_idxG 0 E_ints F_int cInt1 wU wU (hSr) (rfl) oD oD (fun _ => wU) wU (fun _ => wU) (fun _ => ?_)); (try simp only [Act.put, pA, pB, pC]); (try simp only [cInt])) | quiet_step (first | exact quiet_same (C1.out _) | exact quiet_same (C2.out _)))
   refine wpQuiet_nil ?_
   intro w2 hb2
   replace hb2 := below_drewN hb2
   have hbk : -1048576 ≤ b * (k : Int) ∧ b * (k : Int) ≤ 1048576 := by
    rcases hb with rfl | rfl
    ·omega
    ·omega
   have ha0 : 0 ≤ absI (atD 0 l 0) ∧ absI (atD 0 l 0) ≤ 1000 := by simp at hl0; unfold absI; split <;> omega
   have hw1 : IntKind.i64.wrap (b * (k : Int)) = b * k := IntWalk.i64_in _ (by omega)
   have hw2 : IntKind.i64.wrap (absI (atD 0 l 0) + b * (k : Int)) = absI (atD 0 l 0) + b * k := IntWalk.i64_in _ (by omega)
   have HW1 := hid hw1; clear hw1
   have HW2 := hid hw2; clear hw2
   have HBK := hid hbk; clear hbk
   obtain ⟨g, rfl⟩ : ∃ g, f = g + 1 := ⟨f - 1, by omega⟩
   go_wp2_with fail
   ·have hq : (absI (atD 0 l k) == IntKind.i64.wrap (absI (atD 0 l 0) + IntKind.i64.wrap (b * (k : Int)))) = true := by assumption
    rw [HW1.out, HW2.out] at hq
    have hr := HR.out
    rw [runGo, if_pos ⟨hlt, by simpa using hq⟩] at hr
    exact ⟨⟨k + 1, g, by omega, by omega, by omega, by go_num, hr, bnext hbr hb2⟩, by simp [intOf]; omega⟩
   ·have hq : (absI (atD 0 l k) == IntKind.i64.wrap (absI (atD 0 l 0) + IntKind.i64.wrap (b * (k : Int)))) = false := by assumption
    rw [HW1.out, HW2.out] at hq
    have hr := HR.out
    rw [runGo, if_neg (fun h => by simp [h.2] at hq)] at hr
    go_ret
    exact ⟨by rw [← hr]; rfl, bnext hbr hb2⟩
  ·have hd : decide (k < l.length) = false := by simpa using hlt
   have hr := HR.out
   have hr2 : k = runN l b := by
    rw [← hr]
    cases f with
    | zero => rfl
    | succ f => rw [runGo, if_neg (fun h => hlt h.1)]
   have HR2 := hid hr2; clear hr2 hr
   go_wp2_with fail
   refine wp_region_quiet_lit kR kR ?_
   repeat (first | ((with_reducible refine wpQ_skip wU ?_); (try simp only [Act.put, pA, pB, pC])) | quiet_step (fail))
   refine wpQuiet_nil ?_
   intro w2 hb2
   replace hb2 := below_drewN hb2
   go_wp2_with fail
   go_ret
   exact ⟨by rw [← HR2.out]; rfl, bnext hbr hb2⟩
end Go.Proofs.YtglpfpdomnllkaaGreatDoor

namespace Go.Proofs.YtglpfpdomnllkaaGreatDoor
open Go.RowKit
set_option maxHeartbeats 1000000
set_option maxRecDepth 100000

end Go.Proofs.YtglpfpdomnllkaaGreatDoor

namespace Go.Proofs.YtglpfpdomnllkaaGreatDoor
open Go.RowKit
set_option maxHeartbeats 1000000
set_option maxRecDepth 100000

def wordErr (n : Int) (l : List PassV) : Int := if passesE n l ≠ 0 then passesE n l else if 200 < (lettersAll l).length then 5 else 0
def wordL (n : Int) (l : List PassV) : List Int := if wordErr n l = 0 then lettersAll l else []

theorem Word_any (n : Int) (a : Option Addr) (cap : Nat) (l : List PassV) (w : World) (hS : PassesR w a cap l) (hl : l.length ≤ 1048576) (hw : ∀ p ∈ l, p.way.size ≤ 1048576) :
  Calls Tryz.prog 21 #[.int .i64 n, .slice a l.length cap] w fun r w' => RetLE w (wordL n l) (wordErr n l) r w' := by
 have hcap := hS.le
 have hm := hS.max
 have hc := CheckPasses_any n a cap l w hS hl hw
 by_cases h : passesE n l = 0
 ·rw [h] at hc
  obtain ⟨hn1, hn2, hl2, hall⟩ := passesE_zero h
  have eE : wordErr n l = if 200 < (lettersAll l).length then 5 else 0 := by simp [wordErr, h]
  have HE := hid eE; have HC := hid hc; have HA := hid hall
  clear eE hc hall h hw
  go_enter Tryz.func21, Tryz.ntmps21
  go_wp2_with fail
  refine HC.out.mono ?_
  rintro e w1 ⟨rfl, hb1⟩
  go_wp2_with fail
  go_loopw [7, 9, 18] (fun v _ i wr => ∃ k : Nat, k ≤ l.length ∧ i = .int .i64 k ∧ OwnI w.heap.size wr v (lettersAll (l.take k)) ∧ (lettersAll (l.take k)).length ≤ 11 * k ∧ Below w.heap.size w wr) (fun _ _ i _ => l.length - (intOf i).toNat)
  case atStart => exact ⟨0, by omega, rfl, own_nil cIntS, by simp [lettersAll], hb1⟩
  case round =>
   obtain ⟨k, hk, rfl, hO, hlen, hbr⟩ := hrel
   have hSr := hS.below hbr
   by_cases hlt : k < l.length
   ·have hs := lettersAll_step l k hlt
    have HS := hid hs; clear hs
    obtain ⟨z1, z2, z3, z4⟩ := passE_small hn2 (HA.out (atD pass0 l k) (by simp [atD, hlt]))
    obtain ⟨y1, y2, y3, y4, _, _, _⟩ := passE_zero (HA.out (atD pass0 l k) (by simp [atD, hlt]))
    have hlt3 := fun w => letters_any (atD pass0 l k) w y1 z1 y3 z2 (by omega) z4
    have hle : (lettersL (atD pass0 l k)).length ≤ 11 := by rw [lettersL_len]; exact z3
    have HLT := hid hlt3; clear hlt3 z4
    have hbs := hbr.size
    go_wp2_with (with_reducible refine wpList_idxS _ pass0 E_passes F_pass cPass1 wU wU (hSr) oD oD (fun _ => wU) (fun _ => ?_))
    refine (HLT.out _).mono ?_
    rintro e w2 ⟨v2, rfl, ho2, hb2⟩
    obtain ⟨a2, cap2, rfl, hr2, _, _⟩ := ho2.reps
    have hO2 := ((hO.alloc (.cells #[.int .i64 (atD pass0 l k).f, .int .i64 (atD pass0 l k).t, .string (atD pass0 l k).way] 39)).below hb2)
    have hbr2 := bnext (bal hbr (.cells #[.int .i64 (atD pass0 l k).f, .int .i64 (atD pass0 l k).t, .string (atD pass0 l k).way] 39)) hb2
    have hbs2 := hbr2.size
    go_wp2_with ((with_reducible refine wpList_app (B := w.heap.size) (l := lettersAll (l.take k)) (ys := lettersL (atD pass0 l k)) E_ints wU wU hO2 hr2 cIntO (by omega) (by omega) (by omega) ?_); intro v3 w3 ho3 hg3 _)
    refine ⟨⟨k + 1, by omega, by go_num, by rw [HS.out]; exact ho3, by rw [HS.out, List.length_append]; omega, below_own hbr2 hg3 hO2 (Nat.le_refl _)⟩, by simp [intOf]; omega⟩
   ·have : k = l.length := by omega
    subst this
    rw [List.take_length] at hO hlen
    obtain ⟨ao, capo, rfl, hro, _, _⟩ := hO.reps
    by_cases hlong : 200 < (lettersAll l).length
    ·have e1 : wordErr n l = 5 := by rw [HE.out, if_pos hlong]
     have e2 : wordL n l = [] := by rw [wordL, e1]; rfl
     have E1 := hid e1; have E2 := hid e2
     clear e1 e2
     go_wp2_with fail
     go_ret2
     rw [E1.out, E2.out]
     exact RetLE.none rfl hbr
    ·have e1 : wordErr n l = 0 := by rw [HE.out, if_neg hlong]
     have e2 : wordL n l = lettersAll l := by rw [wordL, e1]; rfl
     have E1 := hid e1; have E2 := hid e2
     clear e1 e2
     go_wp2_with fail
     go_ret2
     rw [E1.out, E2.out]
     exact RetLE.own _ rfl hO (Nat.le_refl _) hbr
 ·have e1 : wordErr n l = passesE n l := by simp [wordErr, h]
  have e2 : wordL n l = [] := by rw [wordL, e1, if_neg h]
  rw [e1, e2]
  obtain ⟨q, hq⟩ : ∃ q, q = passesE n l := ⟨_, rfl⟩
  rw [← hq] at hc h ⊢
  have hne : (q != 0) = true := by simpa using h
  have HC := hid hc
  clear hc hq e1 e2 hw
  go_enter Tryz.func21, Tryz.ntmps21
  go_wp2_with fail
  refine HC.out.mono ?_
  rintro e w1 ⟨rfl, hb1⟩
  go_wp2_with fail
  go_ret2
  exact RetLE.none rfl hb1
end Go.Proofs.YtglpfpdomnllkaaGreatDoor

namespace Go.Proofs.YtglpfpdomnllkaaGreatDoor
open Go.RowKit
set_option maxHeartbeats 400000
set_option maxRecDepth 100000

theorem bwhen_any (b : Bool) (e : Int) (w : World) :
  Calls Tryz.prog 58 #[.bool b, .int .i64 e] w fun r w' => r = .returned (.int .i64 (if b then e else 0)) ∧ w = w' := by
 cases b
 ·go_enter Tryz.func58, Tryz.ntmps58
  go_wp2
  go_ret
  exact ⟨rfl, rfl⟩
 ·go_enter Tryz.func58, Tryz.ntmps58
  go_wp2
  go_ret
  exact ⟨rfl, rfl⟩

theorem bfirst_any (a : Option Addr) (cap : Nat) (l : List Int) (w : World) (h : Ints w a cap l) :
  Calls Tryz.prog 56 #[.slice a l.length cap] w fun r w' => r = .returned (.int .i64 (firstE l)) ∧ w = w' := by
 have hcap := h.le
 have hm := h.max
 go_enter Tryz.func56, Tryz.ntmps56
 go_wp2
 go_loop [7] (fun i => ∃ k : Nat, k ≤ l.length ∧ i = .int .i64 k ∧ firstE (l.drop k) = firstE l) (fun i => l.length - (intOf i).toNat)
 case atStart => exact ⟨0, by omega, rfl, by simp⟩
 case round =>
  obtain ⟨k, hk, rfl, hf⟩ := hrel
  by_cases hlt : k < l.length
  ·have hs := firstE_drop l k hlt
   have HF := hid hf; clear hf
   have HS := hid hs; clear hs
   go_wp2_with (with_reducible refine wpList_idx _ 0 E_errs F_err cInt1 wU wU (h) oD oD (fun _ => wU) (fun _ => ?_))
   ·go_ret
    have h1 : (atD 0 l k != 0) = true := by assumption
    refine ⟨?_, rfl⟩
    have := HS.out; rw [HF.out, h1, if_pos rfl] at this; rw [this]; rfl
   ·go_round
    case rel =>
     have h1 : (atD 0 l k != 0) = false := by assumption
     refine ⟨k + 1, by omega, by go_num, ?_⟩
     have := HS.out; rw [HF.out, h1] at this; exact this.symm
    case measure => simp [intOf]; omega
  ·have : k = l.length := by omega
   subst this
   rw [firstE_end] at hf
   have HF := hid hf; clear hf
   go_wp2
   go_ret
   exact ⟨by rw [← HF.out]; rfl, rfl⟩

def strandsE (n : Int) : Int := if n < 1 ∨ 12 < n then 3 else 0
theorem checkStrands_any (n : Int) (w : World) :
  Calls Tryz.prog 57 #[.int .i64 n] w fun r w' => r = .returned (.int .i64 (strandsE n)) ∧ w = w' := by
 by_cases h1 : n < 1
 ·have e : strandsE n = 3 := by unfold strandsE; rw [if_pos (by omega)]
  rw [e]
  go_enter Tryz.func57, Tryz.ntmps57
  go_wp2_with (go_at_call 58; refine (bwhen_any _ _ _).mono ?_; rintro e w' ⟨rfl, rfl⟩)
  go_ret
  exact ⟨rfl, rfl⟩
 by_cases h2 : 12 < n
 ·have e : strandsE n = 3 := by unfold strandsE; rw [if_pos (by omega)]
  rw [e]
  go_enter Tryz.func57, Tryz.ntmps57
  go_wp2_with (go_at_call 58; refine (bwhen_any _ _ _).mono ?_; rintro e w' ⟨rfl, rfl⟩)
  go_ret
  exact ⟨rfl, rfl⟩
 ·have e : strandsE n = 0 := by unfold strandsE; rw [if_neg (by omega)]
  rw [e]
  go_enter Tryz.func57, Tryz.ntmps57
  go_wp2_with (go_at_call 58; refine (bwhen_any _ _ _).mono ?_; rintro e w' ⟨rfl, rfl⟩)
  go_ret
  exact ⟨rfl, rfl⟩

def outB (n x : Int) : Bool := x == 0 || decide (x ≤ -n) || decide (n ≤ x)
theorem outside_any (n x : Int) (w : World) (h1 : 1 ≤ n) (h2 : n ≤ 12) :
  Calls Tryz.prog 60 #[.int .i64 n, .int .i64 x] w fun r w' => r = .returned (.bool (outB n x)) ∧ w = w' := by
 by_cases c1 : x = 0
 ·have e : outB n x = true := by simp [outB, c1]
  have hb : (x == 0) = true := by simpa using c1
  rw [e]
  clear c1 e
  go_enter Tryz.func60, Tryz.ntmps60
  go_wp2
  go_ret
  exact ⟨rfl, rfl⟩
 have hb : (x == 0) = false := by simpa using c1
 by_cases c2 : x ≤ -n
 ·have e : outB n x = true := by simp [outB, c2]
  rw [e]
  go_enter Tryz.func60, Tryz.ntmps60
  go_wp2
  go_ret
  exact ⟨rfl, rfl⟩
 by_cases c3 : n ≤ x
 ·have e : outB n x = true := by simp [outB, c3]
  rw [e]
  go_enter Tryz.func60, Tryz.ntmps60
  go_wp2
  go_ret
  exact ⟨rfl, rfl⟩
 ·have e : outB n x = false := by simp [outB, c1, c2, c3]
  rw [e]
  go_enter Tryz.func60, Tryz.ntmps60
  go_wp2
  go_ret
  exact ⟨rfl, rfl⟩

theorem outsideC_any (n x : Int) (b : Nat) (w : World) (h1 : 1 ≤ n) (h2 : n ≤ 12) (hc : w.cell? ⟨b, 0, none⟩ = some (.int .i64 n)) :
  Calls Tryz.prog 59 #[.int .i64 x, .pointer (some ⟨b, 0, none⟩)] w fun r w' => r = .returned (.bool (outB n x)) ∧ w = w' := by
 go_enter Tryz.func59, Tryz.ntmps59
 go_wp2_with (go_at_call 60; refine (outside_any n x _ h1 h2).mono ?_; rintro e w' ⟨rfl, rfl⟩)
 go_ret
 exact ⟨rfl, rfl⟩

/-- the place of the first letter from the k-th on that is outside. -/
def idxGo (n : Int) (l : List Int) : Nat → Nat → Int
 | _, 0 => -1
 | k, f + 1 => if outB n (atD 0 l k) then k else idxGo n l (k + 1) f
theorem idxO_any (n : Int) (b : Nat) (a : Option Addr) (cap : Nat) (l : List Int) (w : World) (hS : Ints w a cap l) (h1 : 1 ≤ n) (h2 : n ≤ 12) (hc : w.cell? ⟨b, 0, none⟩ = some (.int .i64 n)) :
  Calls Tryz.prog 92 #[.slice a l.length cap, .func (.func 59) #[] #[.pointer (some ⟨b, 0, none⟩)]] w fun r w' => r = .returned (.int .i64 (idxGo n l 0 l.length)) ∧ w = w' := by
 have hcap := hS.le
 have hm := hS.max
 go_enter Tryz.func92, Tryz.ntmps92
 go_wp2_with fail
 go_loop [8, 5] (fun i _ => ∃ k : Nat, k ≤ l.length ∧ i = .int .i64 k ∧ idxGo n l k (l.length - k) = idxGo n l 0 l.length) (fun i _ => l.length - (intOf i).toNat)
 case atStart => exact ⟨0, by omega, rfl, rfl⟩
 case round =>
  obtain ⟨k, hk, rfl, hf⟩ := hrel
  by_cases hlt : k < l.length
  ·have hs : idxGo n l k (l.length - k) = if outB n (atD 0 l k) then (k : Int) else idxGo n l (k + 1) (l.length - (k + 1)) := by
    rw [show l.length - k = (l.length - (k + 1)) + 1 by omega, idxGo]
   rw [hf] at hs
   have HS := hid hs; clear hs hf
   obtain ⟨q, hq⟩ : ∃ q, q = outB n (atD 0 l k) := ⟨_, rfl⟩
   have hc := outsideC_any n (atD 0 l k) b w h1 h2 hc
   rw [← hq] at hc
   have HQ := hid hq; clear hq
   have HC := hid hc; clear hc
   cases q
   ·go_wp2_with (first | (with_reducible refine wpList_idx _ 0 E_ints F_int cInt1 wU wU (hS) oD oD (fun _ => wU) (fun _ => ?_)) | (go_at_call 59; refine HC.out.mono ?_; rintro e w' ⟨rfl, rfl⟩))
    have h := HS.out
    rw [← HQ.out] at h
    refine ⟨⟨k + 1, by omega, by go_num, h.symm⟩, by simp [intOf]; omega⟩
   ·go_wp2_with (first | (with_reducible refine wpList_idx _ 0 E_ints F_int cInt1 wU wU (hS) oD oD (fun _ => wU) (fun _ => ?_)) | (go_at_call 59; refine HC.out.mono ?_; rintro e w' ⟨rfl, rfl⟩))
    have h := HS.out
    rw [← HQ.out] at h
    go_ret
    exact ⟨by rw [h]; rfl, rfl⟩
  ·have : k = l.length := by omega
   subst this
   rw [Nat.sub_self, idxGo] at hf
   have HF := hid hf; clear hf
   go_wp2_with fail
   go_ret
   exact ⟨by rw [← HF.out]; rfl, rfl⟩

theorem idxGo_neg (n : Int) (l : List Int) : ∀ (f k : Nat), (0 ≤ idxGo n l k f) ↔ ∃ j, k ≤ j ∧ j < k + f ∧ outB n (atD 0 l j) = true
 | 0, k => by
   simp only [idxGo]
   constructor
   · intro h; omega
   · rintro ⟨j, h1, h2, _⟩; omega
 | f + 1, k => by
   rw [idxGo]
   by_cases h : outB n (atD 0 l k) = true
   · rw [if_pos h]
     exact ⟨fun _ => ⟨k, by omega, by omega, h⟩, fun _ => by omega⟩
   · rw [if_neg h, idxGo_neg n l f (k + 1)]
     constructor
     · rintro ⟨j, h1, h2, h3⟩; exact ⟨j, by omega, by omega, h3⟩
     · rintro ⟨j, h1, h2, h3⟩
       rcases Nat.eq_or_lt_of_le h1 with e | e
       · subst e; exact absurd h3 h
       · exact ⟨j, by omega, by omega, h3⟩

theorem containsO_any (n : Int) (b : Nat) (a : Option Addr) (cap : Nat) (l : List Int) (w : World) (hS : Ints w a cap l) (h1 : 1 ≤ n) (h2 : n ≤ 12) (hc : w.cell? ⟨b, 0, none⟩ = some (.int .i64 n)) :
  Calls Tryz.prog 50 #[.slice a l.length cap, .func (.func 59) #[] #[.pointer (some ⟨b, 0, none⟩)]] w fun r w' => r = .returned (.bool (decide (0 ≤ idxGo n l 0 l.length))) ∧ w = w' := by
 go_enter Tryz.func50, Tryz.ntmps50
 go_wp2_with (go_at_call 92; refine (idxO_any n b a cap l _ hS h1 h2 hc).mono ?_; rintro e w' ⟨rfl, rfl⟩)
 go_ret
 exact ⟨rfl, rfl⟩

def wordE (n : Int) (l : List Int) : Int := if strandsE n ≠ 0 then 3 else if 200 < l.length then 5 else if 0 ≤ idxGo n l 0 l.length then 3 else 0
theorem CheckWord_any (n : Int) (a : Option Addr) (cap : Nat) (l : List Int) (w : World) (hS : Ints w a cap l) (hsm : l.length ≤ 1048576) :
  Calls Tryz.prog 28 #[.int .i64 n, .slice a l.length cap] w fun r w' => r = .returned (.int .i64 (wordE n l)) ∧ Below w.heap.size w w' := by
 have hcap := hS.le
 have hm := hS.max
 have hk := fun w => checkStrands_any n w
 by_cases h : strandsE n = 0
 ·have hn : 1 ≤ n ∧ n ≤ 12 := by unfold strandsE at h; split at h <;> omega
  rw [h] at hk
  have HK := hid hk; clear hk
  by_cases h2 : 200 < l.length
  ·have e : wordE n l = 5 := by simp [wordE, h, h2]
   rw [e]
   clear h e
   go_enter Tryz.func28, Tryz.ntmps28
   go_wp2_with (first | (go_at_call 57; refine (HK.out _).mono ?_; rintro e w' ⟨rfl, rfl⟩) | (go_at_call 58; refine (bwhen_any _ _ _).mono ?_; rintro e w' ⟨rfl, rfl⟩) | (go_at_call 56; refine (bfirst_any _ _ [_, _] _ (reps_newN cIntS [_, _] 2 rfl (by decide) _ _ (by simp) rfl)).mono ?_; rintro e w' ⟨rfl, rfl⟩))
   go_ret
   exact ⟨rfl, bal (bal (Below.refl _ _) _) _⟩
  ·have e : wordE n l = if 0 ≤ idxGo n l 0 l.length then 3 else 0 := by simp [wordE, h, h2]
   have hct := fun (w : World) (b : Nat) hS hc => containsO_any n b a cap l w hS hn.1 hn.2 hc
   obtain ⟨q, hq⟩ : ∃ q, q = decide (0 ≤ idxGo n l 0 l.length) := ⟨_, rfl⟩
   rw [← hq] at hct
   have e2 : wordE n l = if q then 3 else 0 := by rw [e, hq]; simp
   rw [e2]
   have HCT := hid hct
   clear h e e2 hq hct
   cases q
   all_goals
    go_enter Tryz.func28, Tryz.ntmps28
    go_wp2_with (first | (go_at_call 57; refine (HK.out _).mono ?_; rintro e w' ⟨rfl, rfl⟩) | (go_at_call 58; refine (bwhen_any _ _ _).mono ?_; rintro e w' ⟨rfl, rfl⟩) | (go_at_call 56; refine (bfirst_any _ _ [_, _] _ (reps_newN cIntS [_, _] 2 rfl (by decide) _ _ (by simp) rfl)).mono ?_; rintro e w' ⟨rfl, rfl⟩) | (go_at_call 50; refine (HCT.out _ _ ((hS.alloc _).alloc _) (by simp [go_sem])).mono ?_; rintro e w' ⟨rfl, rfl⟩))
    go_ret
    exact ⟨rfl, bal (bal (Below.refl _ _) _) _⟩
 ·have h3 : strandsE n = 3 := by unfold strandsE at *; split <;> simp_all
  have e : wordE n l = 3 := by simp [wordE, h3]
  rw [e]
  rw [h3] at hk
  have HK := hid hk; clear hk h h3 e
  go_enter Tryz.func28, Tryz.ntmps28
  go_wp2_with (first | (go_at_call 57; refine (HK.out _).mono ?_; rintro e w' ⟨rfl, rfl⟩) | (go_at_call 58; refine (bwhen_any _ _ _).mono ?_; rintro e w' ⟨rfl, rfl⟩) | (go_at_call 56; refine (bfirst_any _ _ [_, _] _ (reps_newN cIntS [_, _] 2 rfl (by decide) _ _ (by simp) rfl)).mono ?_; rintro e w' ⟨rfl, rfl⟩))
  all_goals
   go_ret
   exact ⟨rfl, bal (bal (Below.refl _ _) _) _⟩
end Go.Proofs.YtglpfpdomnllkaaGreatDoor

namespace Go.Proofs.YtglpfpdomnllkaaGreatDoor
open Go.RowKit
set_option maxHeartbeats 1000000
set_option maxRecDepth 100000

theorem drop_step {α : Type} [DecidableEq α] (d : α) (l m : List α) (h : l.length = m.length) (k : Nat) (hk : k < l.length) : decide (l.drop k = m.drop k) = (decide (atD d l k = atD d m k) && decide (l.drop (k + 1) = m.drop (k + 1))) := by
 have e2 : atD d l k = l[k] := by simp [atD, hk]
 have e3 : atD d m k = m[k] := by simp [atD, h ▸ hk]
 have hk2 : k < m.length := h ▸ hk
 rw [List.drop_eq_getElem_cons hk, List.drop_eq_getElem_cons hk2, e2, e3]
 rw [Bool.eq_iff_iff, Bool.and_eq_true, decide_eq_true_iff, decide_eq_true_iff, decide_eq_true_iff, List.cons.injEq]

theorem SameInts_any (a a2 : Option Addr) (cap cap2 : Nat) (l m : List Int) (w : World) (hS : Ints w a cap l) (hM : Ints w a2 cap2 m) (hl : l.length ≤ 1048576) :
  Calls Tryz.prog 22 #[.slice a l.length cap, .slice a2 m.length cap2] w fun r w' => r = .returned (.bool (decide (l = m))) ∧ Below w.heap.size w w' := by
 have hcap := hS.le
 have hm := hS.max
 have hcap2 := hM.le
 have hm2 := hM.max
 by_cases hlen : l.length = m.length
 ·have HL := hid hlen
  go_enter Tryz.func22, Tryz.ntmps22
  go_wp2_with fail
  go_loopw [5] (fun i wr => ∃ k : Nat, k ≤ l.length ∧ i = .int .i64 k ∧ decide (l.drop k = m.drop k) = decide (l = m) ∧ Below w.heap.size w wr) (fun i _ => l.length - (intOf i).toNat)
  case atStart => exact ⟨0, by omega, rfl, rfl, Below.refl _ _⟩
  case round =>
   obtain ⟨k, hk, rfl, hf, hbr⟩ := hrel
   by_cases hlt : k < l.length
   ·have hs := drop_step 0 l m HL.out k hlt
    rw [hf] at hs
    have HS := hid hs; clear hs hf
    have hx : (k : Int) < m.length := by rw [← HL.out]; omega
    have hS5 := hS.below hbr
    have hS6 := hM.below hbr
    clear hlen
    go_wp2_with fail
    refine wp_region_quiet_lit kR kR ?_
    repeat (first | ((with_reducible refine wpQD_idx 0 E_ints F_int cInt1 wU wU (hS5) oD oD (fun _ => wU) (fun _ => ?_)); (try simp only [Act.put, pA, pB, pC]); (try simp only [cInt])) | ((with_reducible refine wpQD_idx 0 E_ints F_int cInt1 wU wU (hS6) oD oD (fun _ => wU) (fun _ => ?_)); (try simp only [Act.put, pA, pB, pC]); (try simp only [cInt])) | quiet_step (fail))
    refine wpQuiet_nil ?_
    intro w5 hb5
    replace hb5 := below_drewN hb5
    have b5 := bnext hbr hb5
    go_wp2_with fail
    ·have hd : (atD 0 l k != atD 0 m k) = true := by assumption
     have h := HS.out
     rw [show decide (atD 0 l k = atD 0 m k) = false by simpa using hd, Bool.false_and] at h
     go_ret
     exact ⟨by rw [h]; rfl, b5⟩
    ·have hd : (atD 0 l k != atD 0 m k) = false := by assumption
     have h := HS.out
     rw [show decide (atD 0 l k = atD 0 m k) = true by simpa using hd, Bool.true_and] at h
     exact ⟨⟨k + 1, by omega, by go_num, h.symm, b5⟩, by simp [intOf]; omega⟩
   ·have : k = l.length := by omega
    subst this
    rw [List.drop_length, HL.out, List.drop_length] at hf
    have HF := hid hf; clear hf hlen
    go_wp2_with fail
    go_ret
    exact ⟨by rw [← HF.out]; rfl, hbr⟩
 ·have e : decide (l = m) = false := by
   simp only [decide_eq_false_iff_not]; intro e; exact hlen (by rw [e])
  rw [e]
  have hb : ((l.length : Int) != m.length) = true := by simp; omega
  clear e
  go_enter Tryz.func22, Tryz.ntmps22
  go_wp2_with fail
  go_ret
  exact ⟨rfl, Below.refl _ _⟩

/-- a word that CheckWord accepts fits the strands. -/
theorem wordE_fits {n : Int} {ws : List Int} (h : wordE n ws = 0) : 1 ≤ n ∧ n ≤ 12 ∧ ws.length ≤ 200 ∧ ∀ x ∈ ws, x ≠ 0 ∧ -n < x ∧ x < n := by
 unfold wordE strandsE at h
 split at h
 ·omega
 ·next h1 =>
  split at h
  ·omega
  ·split at h
   ·omega
   ·next h2 h3 =>
    have h1' : 1 ≤ n ∧ n ≤ 12 := by omega
    refine ⟨h1'.1, h1'.2, by omega, fun x hx => ?_⟩
    obtain ⟨j, hj, rfl⟩ := List.getElem_of_mem hx
    have h4 : ¬ outB n (atD 0 ws j) = true := fun h => by
     have := (idxGo_neg n ws ws.length 0).2 ⟨j, by omega, by omega, h⟩
     omega
    have e2 : atD 0 ws j = ws[j] := by simp [atD, hj]
    rw [e2] at h4
    simp only [outB, Bool.or_eq_true, beq_iff_eq, decide_eq_true_eq, not_or] at h4
    omega
theorem wordE_fitsW {n : Int} {ws : List Int} (h : wordE n ws = 0) : fitsW n.toNat ws := by
 obtain ⟨h1, h2, h3, h4⟩ := wordE_fits h
 intro x hx
 have := h4 x hx
 unfold absI
 omega
def crossL (n : Int) (ws : List Int) : List (Int × Int) := if wordE n ws = 0 then (rowL n.toNat ws).2 else []

theorem Crosses_any (n : Int) (a : Option Addr) (cap : Nat) (l : List Int) (w : World) (hS : Ints w a cap l) (hsm : l.length ≤ 1048576) :
  Calls Tryz.prog 8 #[.int .i64 n, .slice a l.length cap] w fun r w' => RetPE w (crossL n l) (wordE n l) r w' := by
 have hcap := hS.le
 have hm := hS.max
 have hk := CheckWord_any n a cap l w hS hsm
 by_cases h : wordE n l = 0
 ·obtain ⟨h1, h2, h3, _⟩ := wordE_fits h
  have hf := wordE_fitsW h
  have e : crossL n l = (rowL n.toNat l).2 := if_pos h
  rw [e, h]
  rw [h] at hk
  obtain ⟨m, rfl⟩ : ∃ m : Nat, n = m := ⟨n.toNat, by omega⟩
  simp only [Int.toNat_natCast] at hf ⊢
  have HK := hid hk; clear hk h e
  have HF := hid hf; clear hf
  go_enter Tryz.func8, Tryz.ntmps8
  go_wp2_with fail
  refine HK.out.mono ?_
  rintro e w1 ⟨rfl, hb1⟩
  go_wp2_with fail
  refine (rowOf_any m a cap l w1 (hS.below hb1) (by omega) (by omega) (by omega) HF.out).mono ?_
  rintro e w2 ⟨rfl, hR, hb2⟩
  obtain ⟨g, cp, vc, hrow, hO, hP, _, _⟩ := hR
  have c1 : w2.cell? ⟨w1.heap.size, 1, none⟩ = some vc := by rw [cell_of_row _ _ _ _ _ _ hrow]; rfl
  have hb := bnext hb1 hb2
  have z1 := hb1.size
  have HROW := hid hrow; clear hrow
  go_wp2_with fail
  go_ret2
  exact RetPE.own vc rfl hP (by omega) hb
 ·have e : crossL n l = [] := if_neg h
  obtain ⟨q, hq⟩ : ∃ q, q = wordE n l := ⟨_, rfl⟩
  rw [e, ← hq]
  rw [← hq] at h hk
  have hne : (q != 0) = true := by simpa using h
  have HK := hid hk; clear hk h e hq
  go_enter Tryz.func8, Tryz.ntmps8
  go_wp2_with fail
  refine HK.out.mono ?_
  rintro e w1 ⟨rfl, hb1⟩
  go_wp2_with fail
  go_ret2
  exact RetPE.none rfl hb1
end Go.Proofs.YtglpfpdomnllkaaGreatDoor

namespace Go.Proofs.YtglpfpdomnllkaaGreatDoor
open Go.RowKit
set_option maxHeartbeats 1000000
set_option maxRecDepth 100000

def ouN (c : Nat) : ByteArray := ⟨(Lib.repeatL [111, 117] c).toArray⟩
theorem repeatOU_any (c : Nat) (w : World) (hc : c ≤ 1048576) :
  Calls Tryz.prog 49 #[.string ⟨#[111, 117]⟩, .int .i64 c] w fun e w' => e = .returned (.string (ouN c)) ∧ Below w.heap.size w w' :=
 Tryz.strings_Repeat ⟨#[111, 117]⟩ c w (by omega) (by show 2 * c ≤ _; omega)
theorem ouN_size (c : Nat) : (ouN c).size = 2 * c := by
 show (Lib.repeatL [111, 117] c).toArray.size = 2 * c
 simp [Lib.repeatL_length]; omega

def senE (n s : Int) : Int := if n < 2 ∨ 12 < n ∨ s < 0 ∨ 1000 < s then 3 else 0
def senP (n half : Int) (k : Nat) : PassV := if (k : Int) % 2 = 1 then ⟨n, n - half, (ouN half.toNat).extract 0 half.toNat⟩ else ⟨1, half + 1, (ouN half.toNat).extract 0 half.toNat⟩
def senK (n half : Int) (k : Nat) : List PassV := (List.range k).map (senP n half)
theorem senK_succ (n half : Int) (k : Nat) : senK n half (k + 1) = senK n half k ++ [senP n half k] := by simp [senK, List.range_succ]
theorem senK_len (n half : Int) (k : Nat) : (senK n half k).length = k := by simp [senK]
def senL (n s : Int) : List PassV := if senE n s = 0 then senK n (n / 2) s.toNat else []
theorem Sennit_any (n s : Int) (w : World) :
  Calls Tryz.prog 20 #[.int .i64 n, .int .i64 s] w fun r w' => RetPsE w (senL n s) (senE n s) r w' := by
 by_cases h : senE n s = 0
 ·have hz : 2 ≤ n ∧ n ≤ 12 ∧ 0 ≤ s ∧ s ≤ 1000 := by unfold senE at h; split at h <;> omega
  obtain ⟨h1, h2, h3, h4⟩ := hz
  obtain ⟨half, hh⟩ : ∃ c : Nat, n / 2 = c := ⟨(n / 2).toNat, by omega⟩
  obtain ⟨m, rfl⟩ : ∃ m : Nat, s = m := ⟨s.toNat, by omega⟩
  have hL : senL n m = senK n half m := by rw [senL, if_pos h, hh]; rfl
  rw [hL, h]
  clear h hL
  have hh1 : half ≤ 6 := by omega
  have hos := ouN_size half
  have hos1 : (half : Int) ≤ (ouN half).size := by omega
  go_enter Tryz.func20, Tryz.ntmps20
  go_wp2_with (first | (go_at_call 49; refine (repeatOU_any half _ (by omega)).mono ?_; rintro e w1 ⟨rfl, hb1⟩))
  have hhn : (half : Int) ≤ n ∧ (half : Int) ≤ 6 := by omega
  clear hh hos hos1
  go_loopw [8, 9, 10, 32] (fun v _ _ i wr => ∃ k : Nat, k ≤ m ∧ i = .int .i64 k ∧ OwnPs w.heap.size wr v (senK n half k) ∧ Below w.heap.size w wr) (fun _ _ _ i _ => m - (intOf i).toNat)
  case atStart => exact ⟨0, by omega, rfl, own_nil cPassS, hb1⟩
  case round =>
   obtain ⟨k, hk, rfl, hO, hbr⟩ := hrel
   have hle : (senK n half k).length ≤ 1000 := by rw [senK_len]; omega
   have hbs := hbr.size
   by_cases hlt : k < m
   ·have hs := senK_succ n half k
    by_cases hp : (k : Int) % 2 = 1
    ·have hb : ((k : Int) % 2 == 1) = true := by simpa using hp
     have e : senP n half k = ⟨n, n - half, (ouN half).extract 0 half⟩ := by rw [senP, if_pos hp]; rfl
     rw [e] at hs
     have HS := hid hs; clear hs e hp
     go_wp2_with (first | ((with_reducible refine wpList_app (l := (senK n half k)) (ys := [(⟨n, n - half, (ouN half).extract 0 half⟩)]) E_passes wU wU (((hO.alloc _)).alloc _) (reps_new1 cPassS ((⟨n, n - half, (ouN half).extract 0 half⟩)) _ _ (by simp) rfl) cPassO (by simp; omega) (by first | omega | (simp; omega)) (by simp; omega) ?_); intro v3 w3 ho3 hg3 hat3))
     refine ⟨⟨k + 1, by omega, by go_num, by rw [HS.out]; exact ho3, below_own (bal (bal hbr (.cells #[.int .i64 n, .int .i64 (n - half), .string ((ouN half).extract 0 half)] 39)) (.cells #[.int .i64 n, .int .i64 (n - half), .string ((ouN half).extract 0 half)] 39)) hg3 ((hO.alloc _).alloc _) (Nat.le_refl _)⟩, by simp [intOf]; omega⟩
    ·have hb : ((k : Int) % 2 == 1) = false := by simpa using hp
     have e : senP n half k = ⟨1, half + 1, (ouN half).extract 0 half⟩ := by rw [senP, if_neg hp]; rfl
     rw [e] at hs
     have HS := hid hs; clear hs e hp
     go_wp2_with (first | ((with_reducible refine wpList_app (l := (senK n half k)) (ys := [(⟨1, half + 1, (ouN half).extract 0 half⟩)]) E_passes wU wU (((hO.alloc _)).alloc _) (reps_new1 cPassS ((⟨1, half + 1, (ouN half).extract 0 half⟩)) _ _ (by simp) rfl) cPassO (by simp; omega) (by first | omega | (simp; omega)) (by simp; omega) ?_); intro v3 w3 ho3 hg3 hat3))
     refine ⟨⟨k + 1, by omega, by go_num, by rw [HS.out]; exact ho3, below_own (bal (bal hbr (.cells #[.int .i64 1, .int .i64 (half + 1), .string ((ouN half).extract 0 half)] 39)) (.cells #[.int .i64 1, .int .i64 (half + 1), .string ((ouN half).extract 0 half)] 39)) hg3 ((hO.alloc _).alloc _) (Nat.le_refl _)⟩, by simp [intOf]; omega⟩
   ·have : k = m := by omega
    subst this
    clear hle
    go_wp2_with fail
    go_ret2
    exact RetPsE.own _ rfl hO (Nat.le_refl _) hbr
 ·have e1 : senE n s = 3 := by unfold senE at *; split at h <;> simp_all
  have e2 : senL n s = [] := if_neg h
  have hc : n < 2 ∨ 12 < n ∨ s < 0 ∨ 1000 < s := by
   unfold senE at h; split at h
   ·assumption
   ·exact absurd rfl h
  rw [e1, e2]
  clear e1 e2 h
  by_cases c1 : n < 2
  ·go_enter Tryz.func20, Tryz.ntmps20
   go_wp2_with fail
   go_ret2
   exact RetPsE.none rfl (Below.refl _ _)
  by_cases c2 : 12 < n
  ·go_enter Tryz.func20, Tryz.ntmps20
   go_wp2_with fail
   go_ret2
   exact RetPsE.none rfl (Below.refl _ _)
  by_cases c3 : s < 0
  ·go_enter Tryz.func20, Tryz.ntmps20
   go_wp2_with fail
   go_ret2
   exact RetPsE.none rfl (Below.refl _ _)
  ·have c4 : 1000 < s := by omega
   go_enter Tryz.func20, Tryz.ntmps20
   go_wp2_with fail
   go_ret2
   exact RetPsE.none rfl (Below.refl _ _)
end Go.Proofs.YtglpfpdomnllkaaGreatDoor

namespace Go.Proofs.YtglpfpdomnllkaaGreatDoor
open Go.RowKit
set_option maxHeartbeats 1000000
set_option maxRecDepth 100000

end Go.Proofs.YtglpfpdomnllkaaGreatDoor

namespace Go.Proofs.YtglpfpdomnllkaaGreatDoor
open Go.RowKit
set_option maxHeartbeats 1000000
set_option maxRecDepth 100000

theorem reps_drop {w : World} {b o cap m : Nat} {r : List Int} (h : Ints w (some ⟨b, o, none⟩) cap r) (hm : m ≤ r.length) : Ints w (if cap = m then some ⟨b, o, none⟩ else some ⟨b, o + m, none⟩) (cap - m) (r.drop m) := by
 have h1 := h.le
 have h2 := h.max
 refine ⟨cIntS, by simp; omega, by unfold maxLen; omega, (fun e => by (split at e <;> cases e)), fun j u hj => ?_⟩
 have e : ∀ L : List Int, (L.flatMap fun x => (cInt x).cells.toList) = L.map cInt := by
  intro L
  induction L with
  | nil => rfl
  | cons x r ih => rw [List.flatMap_cons, ih]; rfl
 rw [e] at hj
 have hj2 := (List.getElem?_eq_some_iff.1 hj).1
 simp at hj2
 rw [if_neg (by omega)]
 refine ⟨b, o + m, rfl, ?_⟩
 obtain ⟨b', o', e', hc⟩ := h.cells (by decide) 0 (m + j) (by omega)
 cases e'
 have := hc 0 u (by
  rw [List.getElem?_map, List.getElem?_drop] at hj
  rw [List.getD_eq_getElem?_getD]
  cases hx : r[m + j]? with
  | none => rw [hx] at hj; cases hj
  | some z => rw [hx] at hj; simp at hj; subst hj; rfl)
 simpa [Nat.add_assoc] using this
theorem reps_take {w : World} {a : Option Addr} {cap m : Nat} {r : List Int} (h : Ints w a cap r) (hm : m ≤ r.length) : Ints w a cap (r.take m) := by
 have h1 := h.le
 refine ⟨cIntS, by simp; omega, h.2.2.1, h.2.2.2.1, fun j u hj => ?_⟩
 have e : ∀ L : List Int, (L.flatMap fun x => (cInt x).cells.toList) = L.map cInt := by
  intro L
  induction L with
  | nil => rfl
  | cons x r ih => rw [List.flatMap_cons, ih]; rfl
 refine h.2.2.2.2 j u ?_
 rw [e] at hj ⊢
 rw [List.map_take, List.getElem?_take] at hj
 split at hj
 ·exact hj
 ·cases hj

/-- the side of a letter of a pass. -/
def sideB (f t x : Int) : Bool := decide (0 < x) == decide (f < t)
def wayL (f t : Int) (ls : List Int) : ByteArray := ⟨(ls.map fun x => if sideB f t x then (111 : UInt8) else 117).toArray⟩
def passCount (r : List Int) : Nat := max (runN r 1) (runN r (-1))
def passF (r : List Int) : Int := if runN r 1 < runN r (-1) then absI (atD 0 r 0) + 1 else absI (atD 0 r 0)
def passT (r : List Int) : Int := if runN r 1 < runN r (-1) then absI (atD 0 r 0) + 1 - passCount r else absI (atD 0 r 0) + passCount r
def passOf (r : List Int) : PassV := ⟨passF r, passT r, wayL (passF r) (passT r) (r.take (passCount r))⟩
def passesOf : Nat → List Int → List PassV
 | 0, _ => []
 | _, [] => []
 | n + 1, r => passOf r :: passesOf n (r.drop (passCount r))
theorem wayL_succ (f t : Int) (r : List Int) (k : Nat) (h : k < r.length) : wayL f t (r.take (k + 1)) = wayL f t (r.take k) ++ ⟨#[if sideB f t (atD 0 r k) then 111 else 117]⟩ := by
 have e2 : atD 0 r k = r[k] := by simp [atD, h]
 unfold wayL
 rw [List.take_succ_eq_append_getElem h, List.map_append, e2, ByteArray.mk_append_mk]
 rfl
theorem wayL_size (f t : Int) (ls : List Int) : (wayL f t ls).size = ls.length := by
 show (ls.map _).toArray.size = _
 simp
theorem atD_take {r : List Int} {c k : Nat} (h : k < c) : atD 0 (r.take c) k = atD 0 r k := by
 unfold atD
 rw [List.getD_eq_getElem?_getD, List.getD_eq_getElem?_getD, List.getElem?_take]
 simp [h]
theorem runGo_ge (l : List Int) (b : Int) : ∀ f k, k ≤ runGo l b k f
 | 0, k => Nat.le_refl _
 | f + 1, k => by
   rw [runGo]; split
   · have := runGo_ge l b f (k + 1); omega
   · exact Nat.le_refl _
theorem runGo_le (l : List Int) (b : Int) : ∀ f k, k ≤ l.length → runGo l b k f ≤ l.length
 | 0, k, h => h
 | f + 1, k, h => by
   rw [runGo]; split
   · next hh => exact runGo_le l b f (k + 1) hh.1
   · exact h
theorem passCount_pos {r : List Int} : 1 ≤ passCount r := by
 have := runGo_ge r 1 r.length 1
 unfold passCount runN
 omega
theorem passCount_le {r : List Int} (h : 0 < r.length) : passCount r ≤ r.length := by
 have h1 := runGo_le r 1 r.length 1 h
 have h2 := runGo_le r (-1) r.length 1 h
 unfold passCount runN
 omega
theorem passesOf_step {f : Nat} {r : List Int} (h : 0 < r.length) : passesOf (f + 1) r = passOf r :: passesOf f (r.drop (passCount r)) := by
 match r, h with
 | x :: r, _ => rfl
def passL (n : Int) (l : List Int) : List PassV := if wordE n l = 0 then passesOf l.length l else []

theorem Passes_any (n : Int) (a : Option Addr) (cap : Nat) (l : List Int) (w : World) (hS : Ints w a cap l) (hsm : l.length ≤ 1048576) :
  Calls Tryz.prog 9 #[.int .i64 n, .slice a l.length cap] w fun r w' => RetPsE w (passL n l) (wordE n l) r w' := by
 have hcap := hS.le
 have hm := hS.max
 have hk := CheckWord_any n a cap l w hS hsm
 by_cases h : wordE n l = 0
 ·obtain ⟨h1, h2, h3, hall⟩ := wordE_fits h
  have e : passL n l = passesOf l.length l := if_pos h
  rw [e, h]
  rw [h] at hk
  have HK := hid hk; have HALL := hid hall; clear hk h e hall
  go_enter Tryz.func9, Tryz.ntmps9
  go_wp2_with fail
  refine HK.out.mono ?_
  rintro e w1 ⟨rfl, hb1⟩
  go_wp2_with fail
  go_loopw [1, 7] (fun v1 v7 wr => ∃ (a1 : Option Addr) (cap1 : Nat) (r : List Int) (ps : List PassV) (f : Nat), v1 = .slice a1 r.length cap1 ∧ Ints w a1 cap1 r ∧ OwnPs w.heap.size wr v7 ps ∧ ps.length + r.length ≤ l.length ∧ r.length ≤ f ∧ ps ++ passesOf f r = passesOf l.length l ∧ (∀ x ∈ r, x ≠ 0 ∧ -n < x ∧ x < n) ∧ Below w.heap.size w wr) (fun v1 _ _ => lenV v1)
  case atStart => exact ⟨a, cap, l, [], l.length, rfl, hS, own_nil cPassS, by simp, Nat.le_refl _, rfl, HALL.out, hb1⟩
  case round =>
   obtain ⟨a1, cap1, r, ps, f, rfl, hR, hO, hlen, hf, hgo, hall, hbr⟩ := hrel
   have hcap1 := hR.le
   have hm1 := hR.max
   by_cases h0 : 0 < r.length
   ·obtain ⟨b, o, rfl, _⟩ := hR.cells (by decide) 0 0 h0
    have hin : ∀ j : Nat, j < r.length → atD 0 r j ∈ r := fun j hj => by simp [atD, hj]
    have hL : ∀ j : Nat, j < r.length → -1000 ≤ atD 0 r j ∧ atD 0 r j ≤ 1000 := fun j hj => by have := hall _ (hin j hj); omega
    have hrun1 := fun W (hW : Below w.heap.size w W) => run_any 1 _ cap1 r W (hR.below hW) (.inl rfl) h0 (by omega) hL
    have hrun2 := fun W (hW : Below w.heap.size w W) => run_any (-1) _ cap1 r W (hR.below hW) (.inr rfl) h0 (by omega) hL
    have hsz := fun W => size_any (atD 0 r 0) W (by have := hL 0 h0; simp at this; omega) (by have := hL 0 h0; simp at this; omega)
    have hfr : 0 ≤ absI (atD 0 r 0) ∧ absI (atD 0 r 0) ≤ 1000 := by have := hL 0 h0; simp at this; unfold absI; split <;> omega
    have hcp := passCount_pos (r := r)
    have hcl := passCount_le h0
    have hup : runN r 1 ≤ r.length := runGo_le r 1 r.length 1 h0
    have hdn : runN r (-1) ≤ r.length := runGo_le r (-1) r.length 1 h0
    have hmx : max (runN r 1 : Int) (runN r (-1)) = passCount r := by unfold passCount; omega
    obtain ⟨up, hu⟩ : ∃ u, u = runN r 1 := ⟨_, rfl⟩
    obtain ⟨dn, hd⟩ : ∃ u, u = runN r (-1) := ⟨_, rfl⟩
    obtain ⟨fr, hfre⟩ : ∃ u, u = absI (atD 0 r 0) := ⟨_, rfl⟩
    obtain ⟨c, hc⟩ : ∃ u, u = passCount r := ⟨_, rfl⟩
    rw [← hu] at hrun1 hmx hup; rw [← hd] at hrun2 hmx hdn; rw [← hfre] at hsz hfr; rw [← hc] at hcp hcl hmx
    have HU := hid hu; have HD := hid hd; have HF := hid hfre; have HC := hid hc
    have R1 := hid hrun1; have R2 := hid hrun2; have SZ := hid hsz; have HG := hid hgo; have HA := hid hall
    clear hu hd hfre hc hrun1 hrun2 hsz hgo hall hin hL
    have hR2 := hR.below hbr
    by_cases hud : up < dn
    ·go_wp2_with (first | (go_at_call 30; with_reducible refine (R1.out _ hbr).mono ?_; rintro e w2 ⟨rfl, hb2⟩) | (go_at_call 30; with_reducible refine (R2.out _ (bnext hbr hb2)).mono ?_; rintro e w3 ⟨rfl, hb3⟩; have b3 := bnext (bnext hbr hb2) hb3; have hR3 := hR.below b3) | (with_reducible refine wpList_idx _ 0 E_ints F_int cInt1 wU wU (hR3) oD oD (fun _ => wU) (fun _ => ?_)) | (go_at_call 31; with_reducible refine (SZ.out _).mono ?_; rintro e w' ⟨rfl, rfl⟩))
     have hO3 := (hO.below hb2).below hb3
     have hFT : decide (fr + 1 < fr + 1 - c) = false := by simp; omega
     have hws0 : wayL (fr + 1) (fr + 1 - c) (r.take 0) = ⟨#[]⟩ := rfl
     go_loopw [14, 15, 55] (fun _ _ i wq => ∃ k : Nat, k ≤ c ∧ i = .int .i64 k ∧ wq.heap[w3.heap.size]? = some (.cells #[.int .i64 (fr + 1), .int .i64 (fr + 1 - c), .string (wayL (fr + 1) (fr + 1 - c) (r.take k))] 39 (0, 0)) ∧ Below w3.heap.size w3 wq ∧ w3.heap.size < wq.heap.size) (fun _ _ i _ => c - (intOf i).toNat)
     case atStart => exact ⟨0, by omega, rfl, by rw [hws0]; exact heap_alloc_new w3 _, bal (Below.refl _ _) _, by simp⟩
     case round =>
      obtain ⟨k, hk, rfl, hrow, hbq, hsq⟩ := hrel
      have c0 : wr.cell? ⟨w3.heap.size, 0, none⟩ = some (.int .i64 (fr + 1)) := by rw [cell_of_row _ _ _ _ _ _ hrow]; rfl
      have c1 : wr.cell? ⟨w3.heap.size, 1, none⟩ = some (.int .i64 (fr + 1 - c)) := by rw [cell_of_row _ _ _ _ _ _ hrow]; rfl
      have c2 : wr.cell? ⟨w3.heap.size, 2, none⟩ = some (.string (wayL (fr + 1) (fr + 1 - c) (r.take k))) := by rw [cell_of_row _ _ _ _ _ _ hrow]; rfl
      have f2 : wr.frozen? ⟨w3.heap.size, 2, none⟩ = false := frozen_of_row _ _ _ _ _ hrow
      have hsiz : (wayL (fr + 1) (fr + 1 - c) (r.take k)).size ≤ 200 := by rw [wayL_size]; simp; omega
      have HROW := hid hrow; clear hrow
      by_cases hlt : k < c
      ·have hsu := wayL_succ (fr + 1) (fr + 1 - c) r k (by omega)
       have hRq := reps_take ((hR3.below hbq)) hcl
       have hxa := HA.out (atD 0 r k) (by simp [atD, show k < r.length by omega])
       have hat := atD_take (r := r) hlt
       have hlc : (r.take c).length = c := by simp; omega
       have HLC := hid hlc; have HAT := hid hat
       clear hlc hat
       by_cases hpos : 0 < atD 0 (r.take c) k
       ·have hpos2 : 0 < atD 0 r k := by rw [← HAT.out]; exact hpos
        have e : sideB (fr + 1) (fr + 1 - c) (atD 0 r k) = false := by
         rw [HAT.out] at hpos
         have : decide (fr + 1 < fr + 1 - c) = false := hFT
         unfold sideB; rw [this]; simp [hpos]
        rw [e] at hsu
        have HS := hid hsu; clear hsu e
        go_wp2_with (with_reducible refine wpList_idxN _ 0 E_ints F_int cInt1 wU wU (hRq) (HLC.out) oD oD (fun _ => wU) (fun _ => ?_))
        refine ⟨⟨k + 1, by omega, by go_num, by rw [heap_setCell_same _ _ _ _ _ _ HROW.out, HS.out]; rfl, Below.setCell (p := ⟨w3.heap.size, 2, none⟩) hbq (Nat.le_refl _) _, by simp [World.setCell]; exact hsq⟩, by simp [intOf]; omega⟩
       ·have hneg2 : ¬ 0 < atD 0 r k := by rw [← HAT.out]; exact hpos
        have e : sideB (fr + 1) (fr + 1 - c) (atD 0 r k) = true := by
         rw [HAT.out] at hpos
         have : decide (fr + 1 < fr + 1 - c) = false := hFT
         unfold sideB; rw [this]; simp [hpos]
        rw [e] at hsu
        have HS := hid hsu; clear hsu e
        go_wp2_with (with_reducible refine wpList_idxN _ 0 E_ints F_int cInt1 wU wU (hRq) (HLC.out) oD oD (fun _ => wU) (fun _ => ?_))
        refine ⟨⟨k + 1, by omega, by go_num, by rw [heap_setCell_same _ _ _ _ _ _ HROW.out, HS.out]; rfl, Below.setCell (p := ⟨w3.heap.size, 2, none⟩) hbq (Nat.le_refl _) _, by simp [World.setCell]; exact hsq⟩, by simp [intOf]; omega⟩
      ·have : k = c := by omega
       subst this
       obtain ⟨P, hP⟩ : ∃ P : PassV, P = ⟨fr + 1, fr + 1 - k, wayL (fr + 1) (fr + 1 - k) (r.take k)⟩ := ⟨_, rfl⟩
       have hPo : passOf r = P := by
        rw [hP]
        unfold passOf passF passT
        rw [← HU.out, ← HD.out, ← HF.out, ← HC.out]
        simp [hud]
       obtain ⟨g, rfl⟩ : ∃ g, f = g + 1 := ⟨f - 1, by omega⟩
       have hstep := passesOf_step (f := g) h0
       rw [hPo, ← HC.out] at hstep
       have hgo2 : (ps ++ [P]) ++ passesOf g (r.drop k) = passesOf l.length l := by
        rw [← HG.out, hstep]; simp
       have hO4 := hO3.below hbq
       have b4 := bnext b3 hbq
       have hbs := b4.size
       have hRd := reps_drop hR hcl
       have hlp : (ps ++ [P]).length + (r.drop k).length ≤ l.length := by simp; omega
       have HP := hid hP
       have HGO2 := hid hgo2; have HLP := hid hlp
       clear hstep hgo2 hPo hlp hP
       go_wp2_with (first | ((with_reducible refine wpList_app (l := ps) (ys := [(⟨fr + 1, fr + 1 - k, wayL (fr + 1) (fr + 1 - k) (r.take k)⟩)]) E_passes wU wU ((hO4).alloc _) (reps_new1 cPassS ((⟨fr + 1, fr + 1 - k, wayL (fr + 1) (fr + 1 - k) (r.take k)⟩)) _ _ (by simp) rfl) cPassO (by simp; omega) (by first | omega | (simp; omega)) (by simp; omega) ?_); intro v5 w5 ho5 hg5 hat5))
       rw [← HP.out] at ho5
       refine ⟨⟨_, _, r.drop k, ps ++ [P], g, by rw [List.length_drop], hRd, ho5, HLP.out, by simp; omega, HGO2.out, fun x hx => HA.out x (List.mem_of_mem_drop hx), below_own (bal b4 _) hg5 (hO4.alloc _) (Nat.le_refl _)⟩, by simp [lenV]; omega⟩
    ·go_wp2_with (first | (go_at_call 30; with_reducible refine (R1.out _ hbr).mono ?_; rintro e w2 ⟨rfl, hb2⟩) | (go_at_call 30; with_reducible refine (R2.out _ (bnext hbr hb2)).mono ?_; rintro e w3 ⟨rfl, hb3⟩; have b3 := bnext (bnext hbr hb2) hb3; have hR3 := hR.below b3) | (with_reducible refine wpList_idx _ 0 E_ints F_int cInt1 wU wU (hR3) oD oD (fun _ => wU) (fun _ => ?_)) | (go_at_call 31; with_reducible refine (SZ.out _).mono ?_; rintro e w' ⟨rfl, rfl⟩))
     have hO3 := (hO.below hb2).below hb3
     have hFT : decide (fr < fr + c) = true := by simp; omega
     have hws0 : wayL (fr) (fr + c) (r.take 0) = ⟨#[]⟩ := rfl
     go_loopw [14, 15, 55] (fun _ _ i wq => ∃ k : Nat, k ≤ c ∧ i = .int .i64 k ∧ wq.heap[w3.heap.size]? = some (.cells #[.int .i64 (fr), .int .i64 (fr + c), .string (wayL (fr) (fr + c) (r.take k))] 39 (0, 0)) ∧ Below w3.heap.size w3 wq ∧ w3.heap.size < wq.heap.size) (fun _ _ i _ => c - (intOf i).toNat)
     case atStart => exact ⟨0, by omega, rfl, by rw [hws0]; exact heap_alloc_new w3 _, bal (Below.refl _ _) _, by simp⟩
     case round =>
      obtain ⟨k, hk, rfl, hrow, hbq, hsq⟩ := hrel
      have c0 : wr.cell? ⟨w3.heap.size, 0, none⟩ = some (.int .i64 (fr)) := by rw [cell_of_row _ _ _ _ _ _ hrow]; rfl
      have c1 : wr.cell? ⟨w3.heap.size, 1, none⟩ = some (.int .i64 (fr + c)) := by rw [cell_of_row _ _ _ _ _ _ hrow]; rfl
      have c2 : wr.cell? ⟨w3.heap.size, 2, none⟩ = some (.string (wayL (fr) (fr + c) (r.take k))) := by rw [cell_of_row _ _ _ _ _ _ hrow]; rfl
      have f2 : wr.frozen? ⟨w3.heap.size, 2, none⟩ = false := frozen_of_row _ _ _ _ _ hrow
      have hsiz : (wayL (fr) (fr + c) (r.take k)).size ≤ 200 := by rw [wayL_size]; simp; omega
      have HROW := hid hrow; clear hrow
      by_cases hlt : k < c
      ·have hsu := wayL_succ (fr) (fr + c) r k (by omega)
       have hRq := reps_take ((hR3.below hbq)) hcl
       have hxa := HA.out (atD 0 r k) (by simp [atD, show k < r.length by omega])
       have hat := atD_take (r := r) hlt
       have hlc : (r.take c).length = c := by simp; omega
       have HLC := hid hlc; have HAT := hid hat
       clear hlc hat
       by_cases hpos : 0 < atD 0 (r.take c) k
       ·have hpos2 : 0 < atD 0 r k := by rw [← HAT.out]; exact hpos
        have e : sideB (fr) (fr + c) (atD 0 r k) = true := by
         rw [HAT.out] at hpos
         have : decide (fr < fr + c) = true := hFT
         unfold sideB; rw [this]; simp [hpos]
        rw [e] at hsu
        have HS := hid hsu; clear hsu e
        go_wp2_with (with_reducible refine wpList_idxN _ 0 E_ints F_int cInt1 wU wU (hRq) (HLC.out) oD oD (fun _ => wU) (fun _ => ?_))
        refine ⟨⟨k + 1, by omega, by go_num, by rw [heap_setCell_same _ _ _ _ _ _ HROW.out, HS.out]; rfl, Below.setCell (p := ⟨w3.heap.size, 2, none⟩) hbq (Nat.le_refl _) _, by simp [World.setCell]; exact hsq⟩, by simp [intOf]; omega⟩
       ·have hneg2 : ¬ 0 < atD 0 r k := by rw [← HAT.out]; exact hpos
        have e : sideB (fr) (fr + c) (atD 0 r k) = false := by
         rw [HAT.out] at hpos
         have : decide (fr < fr + c) = true := hFT
         unfold sideB; rw [this]; simp [hpos]
        rw [e] at hsu
        have HS := hid hsu; clear hsu e
        go_wp2_with (with_reducible refine wpList_idxN _ 0 E_ints F_int cInt1 wU wU (hRq) (HLC.out) oD oD (fun _ => wU) (fun _ => ?_))
        refine ⟨⟨k + 1, by omega, by go_num, by rw [heap_setCell_same _ _ _ _ _ _ HROW.out, HS.out]; rfl, Below.setCell (p := ⟨w3.heap.size, 2, none⟩) hbq (Nat.le_refl _) _, by simp [World.setCell]; exact hsq⟩, by simp [intOf]; omega⟩
      ·have : k = c := by omega
       subst this
       obtain ⟨P, hP⟩ : ∃ P : PassV, P = ⟨fr, fr + k, wayL (fr) (fr + k) (r.take k)⟩ := ⟨_, rfl⟩
       have hPo : passOf r = P := by
        rw [hP]
        unfold passOf passF passT
        rw [← HU.out, ← HD.out, ← HF.out, ← HC.out]
        simp [hud]
       obtain ⟨g, rfl⟩ : ∃ g, f = g + 1 := ⟨f - 1, by omega⟩
       have hstep := passesOf_step (f := g) h0
       rw [hPo, ← HC.out] at hstep
       have hgo2 : (ps ++ [P]) ++ passesOf g (r.drop k) = passesOf l.length l := by
        rw [← HG.out, hstep]; simp
       have hO4 := hO3.below hbq
       have b4 := bnext b3 hbq
       have hbs := b4.size
       have hRd := reps_drop hR hcl
       have hlp : (ps ++ [P]).length + (r.drop k).length ≤ l.length := by simp; omega
       have HP := hid hP
       have HGO2 := hid hgo2; have HLP := hid hlp
       clear hstep hgo2 hPo hlp hP
       go_wp2_with (first | ((with_reducible refine wpList_app (l := ps) (ys := [(⟨fr, fr + k, wayL (fr) (fr + k) (r.take k)⟩)]) E_passes wU wU ((hO4).alloc _) (reps_new1 cPassS ((⟨fr, fr + k, wayL (fr) (fr + k) (r.take k)⟩)) _ _ (by simp) rfl) cPassO (by simp; omega) (by first | omega | (simp; omega)) (by simp; omega) ?_); intro v5 w5 ho5 hg5 hat5))
       rw [← HP.out] at ho5
       refine ⟨⟨_, _, r.drop k, ps ++ [P], g, by rw [List.length_drop], hRd, ho5, HLP.out, by simp; omega, HGO2.out, fun x hx => HA.out x (List.mem_of_mem_drop hx), below_own (bal b4 _) hg5 (hO4.alloc _) (Nat.le_refl _)⟩, by simp [lenV]; omega⟩
   ·have : r = [] := List.eq_nil_of_length_eq_zero (by omega)
    subst this
    have hgo2 : ps = passesOf l.length l := by rw [← hgo]; cases f <;> simp [passesOf]
    subst hgo2
    clear hgo
    go_wp2_with fail
    go_ret2
    exact RetPsE.own _ rfl hO (Nat.le_refl _) hbr
 ·have e : passL n l = [] := if_neg h
  obtain ⟨q, hq⟩ : ∃ q, q = wordE n l := ⟨_, rfl⟩
  rw [e, ← hq]
  rw [← hq] at h hk
  have hne : (q != 0) = true := by simpa using h
  have HK := hid hk; clear hk h e hq
  go_enter Tryz.func9, Tryz.ntmps9
  go_wp2_with fail
  refine HK.out.mono ?_
  rintro e w1 ⟨rfl, hb1⟩
  go_wp2_with fail
  go_ret2
  exact RetPsE.none rfl hb1
end Go.Proofs.YtglpfpdomnllkaaGreatDoor

namespace Go.Proofs.YtglpfpdomnllkaaGreatDoor
open Go.RowKit
set_option maxHeartbeats 1000000
set_option maxRecDepth 100000

theorem wordE_any {n : Int} {l : List Int} (h : strandsE n = 0) (h2 : l.length ≤ 200) : wordE n l = if l.any (outB n) then 3 else 0 := by
 unfold wordE
 rw [if_neg (fun hh => hh h), if_neg (by omega)]
 have key : (0 ≤ idxGo n l 0 l.length) ↔ l.any (outB n) = true := by
  rw [idxGo_neg, List.any_eq_true]
  constructor
  ·rintro ⟨j, _, hj, ho⟩
   exact ⟨atD 0 l j, by simp [atD, show j < l.length by omega], ho⟩
  ·rintro ⟨x, hx, ho⟩
   obtain ⟨j, hj, rfl⟩ := List.getElem_of_mem hx
   exact ⟨j, by omega, by omega, by simpa [atD, hj] using ho⟩
 by_cases c : l.any (outB n) = true
 ·rw [if_pos (key.2 c), if_pos c]
 ·rw [if_neg (fun h => c (key.1 h)), if_neg c]
end Go.Proofs.YtglpfpdomnllkaaGreatDoor

namespace Go.Proofs.YtglpfpdomnllkaaGreatDoor
open Go.RowKit
section
variable {P : Program} {ops : Array Oper} {md : Region.Mode} {C : World → Prop}

end
section
variable {P : Program} {ops : Array Oper} {Qa : Act → Prop} {w : World} {rest : List Oper} {a : Act} {ty : TypeId} {p : String} {af : Array Edge} {g : Option (Nat × Bool)} {d : Tmp}
end

section
variable {P : Program} {ops : Array Oper} {Q : Exit → Act → World → Prop} {w w0 : World} {rest : List Oper} {a : Act} {ty : TypeId} {p : String} {af : Array Edge} {g : Option (Nat × Bool)} {B : Nat} {L : List Pc}
end
end Go.Proofs.YtglpfpdomnllkaaGreatDoor

namespace Go.Proofs.YtglpfpdomnllkaaGreatDoor
open Go.RowKit
section
variable {P : Program} {ops : Array Oper} {Q : Exit → Act → World → Prop} {md : Region.Mode} {C : World → Prop}

/-- the same value in every world of the class, the world left alone. -/
def YieldsC (P : Program) (ops : Array Oper) (C : World → Prop) (o : Oper) (v : Value) (a : Act) : Prop :=
 (Region.wanted o (yielded ops a.tmps) = true ∧ ∀ w, C w → (execOp a.eval o).run P w = .ok (.value v) w) ∨
 (Region.wanted o (yielded ops a.tmps) = false ∧ v = undef)
theorem YieldsC.wpOp {i : Nat} {o : Oper} {v : Value} {a : Act} (hi : ops[i]? = some o) (hy : YieldsC P ops C o v a)
  {K : Act → World → Prop} {w : World} (hC : C w) (h : K (a.put o.dst v) w) : wpOp P ops Q i K a w := by
 unfold Go.wpOp
 simp only [hi]
 rcases hy with ⟨hw, hv⟩ | ⟨hw, rfl⟩
 ·simp only [hw, if_true, Oper.wp, hv w hC, Oper.upon]; exact .inl h
 ·simp only [hw, Bool.false_eq_true, if_false]; exact h
theorem YieldsC.of_same {o : Oper} {v : Value} {a a' : Act} (hy : YieldsC P ops C o v a) (he : execOp a'.eval o = execOp a.eval o)
  (hw : Region.wanted o (yielded ops a'.tmps) = Region.wanted o (yielded ops a.tmps)) : YieldsC P ops C o v a' := by
 unfold YieldsC at *
 rw [he, hw]
 exact hy

theorem wpOp_putC {j : Nat} {oi oj : Oper} {v : Value} (hj : ops[j]? = some oj) (hap : oi.apart ops oj = true)
  (hsi : ∀ cs b, oi.op ≠ .select cs b) (hsj : ∀ cs b, oj.op ≠ .select cs b)
  (hQ : ∀ c a w, ¬ Q (.panic c) a w) {K : Act → World → Prop} {a : Act} {w : World}
  (hy : YieldsC P ops C oi v a) (h : wpOp P ops Q j K (a.put oi.dst v) w) :
  wpOp P ops Q j (fun a' w' => YieldsC P ops C oi v a' ∧ K (a'.put oi.dst v) w') a w := by
 obtain ⟨h1, h2, h3⟩ := Oper.apart_spec hap
 have keep : ∀ (a : Act), YieldsC P ops C oi v a → ∀ u, YieldsC P ops C oi v (a.put oj.dst u) := fun a hy u =>
  hy.of_same (execOp_put oi hsi a oj.dst u h3) (wanted_put oi a oj.dst u h3)
 have keepD : ∀ d, YieldsC P ops C oi v { a with defers := d :: a.defers } := fun d => hy.of_same rfl rfl
 unfold wpOp at *
 simp only [hj] at *
 rw [wanted_put oj a oi.dst v h1] at h
 split
 ·rename_i hw
  simp only [hw, if_true] at h
  rcases h with h | ⟨hasks, hlets⟩
  case inr => exact .inr ⟨by unfold Oper.asks at *; rw [execOp_put oj hsj a oi.dst v h1] at hasks; exact hasks, hlets⟩
  refine .inl ?_
  unfold Oper.wp at *
  rw [execOp_put oj hsj a oi.dst v h1] at h
  generalize (execOp a.eval oj).run P w = r at *
  cases r with
  | ok n w' =>
   cases n <;> simp only [Oper.upon] at h ⊢
   case value u => exact ⟨keep a hy u, by rw [← Act.put_comm a v u h2]; exact h⟩
   case skip => exact ⟨keep a hy _, by rw [← Act.put_comm a v undef h2]; exact h⟩
   case defer d =>
    refine ⟨keep _ (keepD d) _, ?_⟩
    rw [← Act.put_comm _ v undef h2, ← Act.put_defers]
    exact h
   case enter f args =>
    refine Calls.mono h fun e w'' he => ?_
    cases e with
    | returned u => exact ⟨keep a hy u, by rw [← Act.put_comm a v u h2]; exact he⟩
    | panicked c => exact absurd he (hQ _ _ _)
    | outgrown => exact he
   case row row args => exact Rows.mono h fun u w'' he => ⟨keep a hy u, by rw [← Act.put_comm a v u h2]; exact he⟩
  | halt x w' =>
   cases x <;> simp only [Oper.upon] at h ⊢
   case panic u => exact absurd h (hQ _ _ _)
 ·rename_i hw
  simp only [hw] at h
  exact ⟨keep a hy _, by rw [← Act.put_comm a v undef h2]; exact h⟩

/-- whatever order is picked; the class is kept. -/
def wpAnyC (P : Program) (md : Region.Mode) (ops : Array Oper) (C : World → Prop) (Q : Exit → Act → World → Prop) : Nat → Array Bool → Act → World → Prop
 | 0, listed, a, w => Region.ready md ops listed = [] ∧ Q .normal a w
 | fuel + 1, listed, a, w =>
  (Region.ready md ops listed = [] → Q .normal a w) ∧
  ∀ i ∈ Region.ready md ops listed, wpOp P ops Q i (fun a' w' => C w' ∧ wpAnyC P md ops C Q fuel (listed.setIfInBounds i true) a' w') a w
theorem wpAny_of_C : ∀ (fuel : Nat) (listed : Array Bool) (a : Act) (w : World), wpAnyC P md ops C Q fuel listed a w → wpAny P md ops Q fuel listed a w
 | 0, _, _, _, h => h
 | fuel + 1, _, _, _, h => ⟨h.1, fun i hi => wpOp_mono (fun _ _ h' => wpAny_of_C fuel _ _ _ h'.2) (h.2 i hi)⟩

theorem wpAnyC_first {i : Nat} {oi : Oper} {v : Value} (hi : ops[i]? = some oi) (hsel : ∀ (j : Nat) (o : Oper) cs b, ops[j]? = some o → o.op ≠ .select cs b) (hQ : ∀ c a w, ¬ Q (.panic c) a w) :
  ∀ (fuel : Nat) (listed : Array Bool) (a : Act) (w : World), C w →
   (∀ j oj, ops[j]? = some oj → j ≠ i → listed.getD j true = false → (∀ e ∈ oj.after, Region.binds md e = true → e.on ≠ i) → oi.apart ops oj = true) →
   i ∈ Region.ready md ops listed → YieldsC P ops C oi v a →
   wpAnyC P md ops C Q fuel (listed.setIfInBounds i true) (a.put oi.dst v) w → wpAnyC P md ops C Q (fuel + 1) listed a w := by
 intro fuel
 induction fuel with
 | zero =>
  intro listed a w hC _ hr hy H
  refine ⟨fun h => (by rw [h] at hr; cases hr), fun j hj => ?_⟩
  by_cases hji : j = i
  ·subst hji; exact hy.wpOp hi hC ⟨hC, H⟩
  ·have := ready_mono hj hji
   rw [H.1] at this
   cases this
 | succ fuel ih =>
  intro listed a w hC hfree hr hy H
  refine ⟨fun h => (by rw [h] at hr; cases hr), fun j hj => ?_⟩
  by_cases hji : j = i
  ·subst hji; exact hy.wpOp hi hC ⟨hC, H⟩
  ·have h1 := H.2 j (ready_mono hj hji)
   obtain ⟨hjun, oj, hoj, hall⟩ := mem_ready.1 hj
   have hnot : ∀ e ∈ oj.after, Region.binds md e = true → e.on ≠ i := fun e he hb heq => by
    have h1 := hall e he hb
    have h0 := (mem_ready.1 hr).1
    rw [heq, getD_both h0] at h1
    cases h1
   have h2 := wpOp_putC hoj (hfree j oj hoj hji hjun hnot) (fun cs b => hsel i oi cs b hi) (fun cs b => hsel j oj cs b hoj) hQ hy h1
   have hfree' : ∀ k ok, ops[k]? = some ok → k ≠ i → (listed.setIfInBounds j true).getD k true = false →
     (∀ e ∈ ok.after, Region.binds md e = true → e.on ≠ i) → oi.apart ops ok = true := fun k ok hk hki hun hno => by
    refine hfree k ok hk hki ?_ hno
    by_cases hjk : j = k
    ·subst hjk; exact hjun
    ·rw [getD_set_ne true hjk] at hun; exact hun
   refine wpOp_mono (fun a' w' h3 => ⟨h3.2.1, ih (listed.setIfInBounds j true) a' w' h3.2.1 hfree' (ready_mono hr (Ne.symm hji)) h3.1 ?_⟩) h2
   rw [Array.setIfInBounds_comm _ _ hji]
   exact h3.2.2

/-- these operations may come first, in this order. -/
def Region.firstB (md : Region.Mode) (ops : Array Oper) : List Nat → Array Bool → Bool
 | [], _ => true
 | q :: qs, listed => (Region.ready md ops listed).contains q && Region.free md ops listed q && Region.firstB md ops qs (listed.setIfInBounds q true)
def listAll (listed : Array Bool) (qs : List Nat) : Array Bool := qs.foldl (fun l q => l.setIfInBounds q true) listed
/-- the walk of those. -/
def wpPure (P : Program) (ops : Array Oper) (C : World → Prop) (K : Act → Prop) : List Oper → Act → Prop
 | [], a => K a
 | o :: r, a => ∃ v, YieldsC P ops C o v a ∧ wpPure P ops C K r (a.put o.dst v)
theorem wpAnyC_pure (hsel : Region.noSelect ops = true) (hQ : ∀ c a w, ¬ Q (.panic c) a w) {w : World} (hC : C w) {g : Nat} : ∀ (qs : List Nat) (l : List Oper) (listed : Array Bool) (a : Act), qs.map (fun i => ops[i]?) = l.map some →
  Region.firstB md ops qs listed = true → wpPure P ops C (fun a' => wpAnyC P md ops C Q g (listAll listed qs) a' w) l a → wpAnyC P md ops C Q (g + qs.length) listed a w
 | [], [], listed, a, _, _, h => h
 | [], _ :: _, _, _, hm, _, _ => by cases hm
 | _ :: _, [], _, _, hm, _, _ => by cases hm
 | q :: qs, o :: l, listed, a, hm, hB, h => by
   simp only [List.map_cons, List.cons.injEq] at hm
   simp only [Region.firstB, Bool.and_eq_true] at hB
   obtain ⟨v, hy, hK⟩ := h
   exact wpAnyC_first hm.1 (Region.noSelect_spec hsel) hQ (g + qs.length) listed a w hC (Region.free_spec hm.1 hB.1.2) (by simpa using hB.1.1) hy
     (wpAnyC_pure hsel hQ hC qs l _ _ hm.2 hB.2 hK)

end
end Go.Proofs.YtglpfpdomnllkaaGreatDoor

namespace Go.Proofs.YtglpfpdomnllkaaGreatDoor
open Go.RowKit
set_option maxHeartbeats 1000000
set_option maxRecDepth 100000

theorem itoaOk_small (w : World) (n : Int) (h0 : 0 ≤ n) (h1 : n < 100) : ItoaOk w n := by
 intro w' _
 obtain ⟨m, rfl⟩ : ∃ m : Nat, n = m := ⟨n.toNat, by omega⟩
 refine (Tryz.strconv_Itoa_small m (by omega) w').mono ?_
 rintro e w'' ⟨rfl, rfl⟩
 exact ⟨rfl, Below.refl _ _⟩

instance (m : Int × Int) : Decidable (badM m) := inferInstanceAs (Decidable (_ ∨ _ ∨ _ ∨ _))
end Go.Proofs.YtglpfpdomnllkaaGreatDoor

namespace Go.Proofs.YtglpfpdomnllkaaGreatDoor
open Go.RowKit
set_option maxHeartbeats 1000000
set_option maxRecDepth 100000

end Go.Proofs.YtglpfpdomnllkaaGreatDoor

namespace Go.Proofs.YtglpfpdomnllkaaGreatDoor
open Go.RowKit Go.Maps
set_option maxRecDepth 100000

section
variable {P : Program} {ops : Array Oper} {Q : Exit → Act → World → Prop} {md : Region.Mode} {C : World → Prop}
theorem wpAnyC_on {fuel : Nat} {listed : Array Bool} {a : Act} {w : World} (is : List Nat) (hr : Region.ready md ops listed = is) (hne : is ≠ []) (h : ∀ i ∈ is, wpOp P ops Q i (fun a' w' => C w' ∧ wpAnyC P md ops C Q fuel (listed.setIfInBounds i true) a' w') a w) : wpAnyC P md ops C Q (fuel + 1) listed a w :=
 ⟨fun h => absurd (hr ▸ h) hne, fun i hi => h i (hr ▸ hi)⟩
theorem wpOp_value {i : Nat} {o : Oper} {v : Value} {a : Act} {w w' : World} (hi : ops[i]? = some o) (hw : Region.wanted o (yielded ops a.tmps) = true) (hrun : (execOp a.eval o).run P w = .ok (.value v) w') {K : Act → World → Prop} (h : K (a.put o.dst v) w') : wpOp P ops Q i K a w := by
 unfold wpOp
 simp only [hi, hw, if_true, Oper.wp, hrun, Oper.upon]
 exact .inl h
end
theorem of_wpList_nil {P : Program} {ops : Array Oper} {Q : Exit → Act → World → Prop} {a : Act} {w : World} (h : wpList P ops Q [] a w) : Q .normal a w := h
end Go.Proofs.YtglpfpdomnllkaaGreatDoor

namespace Go.Proofs.YtglpfpdomnllkaaGreatDoor
open Go.RowKit Go.Maps
set_option maxHeartbeats 1000000
set_option maxRecDepth 100000

theorem E_cross : ETy Tryz.prog 29 36 (.agg #[.int .i64 0, .int .i64 0]) 2 16 := ⟨Tryz.underlying29, by kernel_rfl, rfl, by decide⟩
end Go.Proofs.YtglpfpdomnllkaaGreatDoor
