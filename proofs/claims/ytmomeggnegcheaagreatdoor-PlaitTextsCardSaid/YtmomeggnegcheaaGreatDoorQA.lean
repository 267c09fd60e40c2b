/- Plain laws on regions that draw their order and only read. Conditions: none beyond each statement's own. Plain laws on guarded reads. Conditions: none beyond each statement's own. -/
import Derived.Test.YtmomeggnegcheaaGreatDoorPlA
import Derived.Deep.QuietTactic
import Derived.BigQuiet
import Derived.Test.YtmomeggnegcheaaGreatDoorTyA
set_option linter.all false
/- Plain laws on regions that draw their order and only read. Conditions: none beyond each statement's own. -/
namespace Go.Proofs.YtmomeggnegcheaaGreatDoor
open Go.RowKit
theorem below_drewN {w w1 : World} (h : ∃ n, w1 = w.drewN n) : Below w.heap.size w w1 := by
  obtain ⟨n, rfl⟩ := h
  exact ⟨rfl, rfl, rfl, Nat.le_refl _, fun _ _ => rfl⟩
section
variable {P : Program} {ops : Array Oper} {rest : List Oper} {a : Act} {α : Type} {c : α → Value} {sz bytes : Nat} {t e : TypeId} {z : Value} {ad : Option Addr} {cap : Nat} {l : List α} {k : Int}
  {d1 d2 : Tmp} {ty1 ty2 : TypeId} {p1 p2 : String} {s x : Operand} {af1 af2 : Array Edge} {Qa : Act → Prop} {w : World}
theorem wpQD_idx (d : α) (E : ETy P t e z sz bytes) (hF : Flat P e) (hc : ∀ x, (c x).cells = #[c x])
   (hs : a.eval s = .slice ad l.length cap) (hx : a.eval x = .int .i64 k) (hR : Reps c sz w ad cap l) (h0 : 0 ≤ k) (hlt : k < l.length) (hd : ∀ p, (a.put (some d1) p).eval (.tmp d1) = p)
   (hK : ∀ p, wpQuiet P ops (fun w' => ∃ n, w' = w.drewN n) Qa rest ((a.put (some d1) p).put (some d2) (c (atD d l k)))) :
   wpQuiet P ops (fun w' => ∃ n, w' = w.drewN n) Qa (⟨some d1, .indexAddr t s x, ty1, p1, af1, none⟩ :: ⟨some d2, .load e (.tmp d1), ty2, p2, af2, none⟩ :: rest) a := by
  have hkl : k.toNat < l.length := by omega
  obtain ⟨b, o, rfl, hcs⟩ := hR.cells E.pos d k.toNat hkl
  have hcell := hcs 0 (c (atD d l k)) (by rw [show l.getD k.toNat d = atD d l k from rfl, hc]; rfl)
  refine wpQ_in (.pointer (some ((⟨b, o, none⟩ : Addr).add (k.toNat * sz)))) rfl (fun w' hw' => ?_) (wpQ_in (c (atD d l k)) rfl (fun w' hw' => ?_) (hK _))
  · have h1 := run_indexAt_sl (P := P) (a := ⟨b, o, none⟩) (cap := cap) w' E h0 hlt
    simp [execOp, hs, hx, h1, Result.andThen]
  · have h2 := run_loadAt_cell (P := P) w' (a := (⟨b, o, none⟩ : Addr).add (k.toNat * sz)) (v := c (atD d l k)) hF (by
      rw [Addr.add_z]
      have hb := below_drewN hw'
      exact (hb.cell (World.block_lt_of_cell? w _ hcell)).trans hcell)
    simp [execOp, hd, h2, Result.andThen]
theorem wpQD_idxN {n : Nat} (d : α) (E : ETy P t e z sz bytes) (hF : Flat P e) (hc : ∀ x, (c x).cells = #[c x])
   (hs : a.eval s = .slice ad n cap) (hx : a.eval x = .int .i64 k) (hR : Reps c sz w ad cap l) (hn : l.length = n) (h0 : 0 ≤ k) (hlt : k < n) (hd : ∀ p, (a.put (some d1) p).eval (.tmp d1) = p)
   (hK : ∀ p, wpQuiet P ops (fun w' => ∃ n, w' = w.drewN n) Qa rest ((a.put (some d1) p).put (some d2) (c (atD d l k)))) :
   wpQuiet P ops (fun w' => ∃ n, w' = w.drewN n) Qa (⟨some d1, .indexAddr t s x, ty1, p1, af1, none⟩ :: ⟨some d2, .load e (.tmp d1), ty2, p2, af2, none⟩ :: rest) a := by
  subst hn
  exact wpQD_idx d E hF hc hs hx hR h0 hlt hd hK
theorem wpList_idxN {Q : Exit → Act → World → Prop} {n : Nat} (w : World) (d : α) (E : ETy P t e z sz bytes) (hF : Flat P e) (hc : ∀ x, (c x).cells = #[c x])
   (hs : a.eval s = .slice ad n cap) (hx : a.eval x = .int .i64 k) (hR : Reps c sz w ad cap l) (hn : l.length = n) (h0 : 0 ≤ k) (hlt : k < n) (hd : ∀ p, (a.put (some d1) p).eval (.tmp d1) = p)
   (hK : ∀ p, wpList P ops Q rest ((a.put (some d1) p).put (some d2) (c (atD d l k))) w) :
   wpList P ops Q (⟨some d1, .indexAddr t s x, ty1, p1, af1, none⟩ :: ⟨some d2, .load e (.tmp d1), ty2, p2, af2, none⟩ :: rest) a w := by
  subst hn
  exact wpList_idx w d E hF hc hs hx hR h0 hlt hd hK
end
end Go.Proofs.YtmomeggnegcheaaGreatDoor

/- Plain laws on guarded reads. Conditions: none beyond each statement's own. -/
namespace Go.Proofs.YtmomeggnegcheaaGreatDoor
open Go.RowKit
section
variable {P : Program} {ops : Array Oper} {rest : List Oper} {a : Act} {α : Type} {c : α → Value} {sz bytes n : Nat} {t e : TypeId} {z : Value} {ad : Option Addr} {cap : Nat} {l : List α} {k : Int}
  {d1 d2 : Tmp} {ty1 ty2 : TypeId} {p1 p2 : String} {s x : Operand} {af1 af2 : Array Edge} {g1 g2 : Option (Nat × Bool)} {Qa : Act → Prop} {w : World}
theorem wpQ_inG {C : World → Prop} {o : Oper} (v : Value) (hg : Region.wanted o (yielded ops a.tmps) = true) (hr : ∀ w', C w' → (execOp a.eval o).run P w' = .ok (.value v) w') (h : wpQuiet P ops C Qa rest (a.put o.dst v)) : wpQuiet P ops C Qa (o :: rest) a := by
  unfold wpQuiet
  rw [if_pos hg]
  refine ⟨v, fun w' hw' => ?_, h⟩
  unfold Oper.quietAt
  rw [hr w' hw']
  exact ⟨rfl, rfl⟩
theorem wpQD_idxG (d : α) (E : ETy P t e z sz bytes) (hF : Flat P e) (hc : ∀ x, (c x).cells = #[c x])
   (hs : a.eval s = .slice ad n cap) (hx : a.eval x = .int .i64 k) (hR : Reps c sz w ad cap l) (hn : l.length = n) (h0 : 0 ≤ k) (hlt : k < n) (hd : ∀ p, (a.put (some d1) p).eval (.tmp d1) = p)
   (hw1 : Region.wanted ⟨some d1, .indexAddr t s x, ty1, p1, af1, g1⟩ (yielded ops a.tmps) = true) (hw2 : ∀ p, Region.wanted ⟨some d2, .load e (.tmp d1), ty2, p2, af2, g2⟩ (yielded ops (a.put (some d1) p).tmps) = true)
   (hK : ∀ p, wpQuiet P ops (fun w' => ∃ n, w' = w.drewN n) Qa rest ((a.put (some d1) p).put (some d2) (c (atD d l k)))) :
   wpQuiet P ops (fun w' => ∃ n, w' = w.drewN n) Qa (⟨some d1, .indexAddr t s x, ty1, p1, af1, g1⟩ :: ⟨some d2, .load e (.tmp d1), ty2, p2, af2, g2⟩ :: rest) a := by
  subst hn
  have hkl : k.toNat < l.length := by omega
  obtain ⟨b, o, rfl, hcs⟩ := hR.cells E.pos d k.toNat hkl
  have hcell := hcs 0 (c (atD d l k)) (by rw [show l.getD k.toNat d = atD d l k from rfl, hc]; rfl)
  refine wpQ_inG (.pointer (some ((⟨b, o, none⟩ : Addr).add (k.toNat * sz)))) hw1 (fun w' hw' => ?_) (wpQ_inG (c (atD d l k)) (hw2 _) (fun w' hw' => ?_) (hK _))
  · have h1 := run_indexAt_sl (P := P) (a := ⟨b, o, none⟩) (cap := cap) w' E h0 hlt
    simp [execOp, hs, hx, h1, Result.andThen]
  · have h2 := run_loadAt_cell (P := P) w' (a := (⟨b, o, none⟩ : Addr).add (k.toNat * sz)) (v := c (atD d l k)) hF (by
      rw [Addr.add_z]
      have hb := below_drewN hw'
      exact (hb.cell (World.block_lt_of_cell? w _ hcell)).trans hcell)
    simp [execOp, hd, h2, Result.andThen]
theorem wpList_idxG {Q : Exit → Act → World → Prop} (d : α) (E : ETy P t e z sz bytes) (hF : Flat P e) (hc : ∀ x, (c x).cells = #[c x])
   (hs : a.eval s = .slice ad n cap) (hx : a.eval x = .int .i64 k) (hR : Reps c sz w ad cap l) (hn : l.length = n) (h0 : 0 ≤ k) (hlt : k < n) (hd : ∀ p, (a.put (some d1) p).eval (.tmp d1) = p)
   (hw1 : Region.wanted ⟨some d1, .indexAddr t s x, ty1, p1, af1, g1⟩ (yielded ops a.tmps) = true) (hw2 : ∀ p, Region.wanted ⟨some d2, .load e (.tmp d1), ty2, p2, af2, g2⟩ (yielded ops (a.put (some d1) p).tmps) = true)
   (hK : ∀ p, wpList P ops Q rest ((a.put (some d1) p).put (some d2) (c (atD d l k))) w) :
   wpList P ops Q (⟨some d1, .indexAddr t s x, ty1, p1, af1, g1⟩ :: ⟨some d2, .load e (.tmp d1), ty2, p2, af2, g2⟩ :: rest) a w := by
  subst hn
  obtain ⟨p, hr1, hr2⟩ := run_idx_flat d E hF hR hc h0 hlt
  refine wpList_step fun K hK' => ?_
  rw [if_pos hw1]
  unfold Oper.wp
  simp only [execOp, hs, hx]
  simp [hr1, Result.andThen]
  refine hK' _ _ (wpList_step fun K2 hK2 => ?_)
  rw [if_pos (hw2 _)]
  unfold Oper.wp
  simp only [execOp, hd]
  simp [hr2, Result.andThen]
  exact hK2 _ _ (hK _)
theorem quiet_same {f : FuncId} {args : Array Value} {n : Nat} {v : Value}
    (h : Calls P f args (w.drewN n) fun e w' => e = .returned v ∧ w.drewN n = w') : Calls P f args (w.drewN n) fun e w'' => e = .returned v ∧ ∃ m, w'' = w.drewN m :=
  h.mono fun _ _ ⟨he, hm⟩ => ⟨he, n, hm.symm⟩
end
end Go.Proofs.YtmomeggnegcheaaGreatDoor
