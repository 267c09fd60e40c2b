/- Plain laws: reads and calls that leave the world as it is may be taken first in a region that draws its order; an operation walked as one of a list. No condition beyond each statement's own. -/
import Derived.Test.YtogbclcnmogaeaaGreatDoorRl2
set_option linter.all false
namespace Go.Proofs.YtogbclcnmogaeaaGreatDoor
open Go.RowKit
section
variable {P : Program} {ops : Array Oper} {Q : Exit → Act → World → Prop} {md : Region.Mode} {C : World → Prop}

/-- the same value in every world of the class, the world left alone. -/
def YieldsK (P : Program) (ops : Array Oper) (C : World → Prop) (o : Oper) (v : Value) (a : Act) : Prop :=
  (Region.wanted o (yielded ops a.tmps) = true ∧ ∀ w, C w → (execOp a.eval o).run P w = .ok (.value v) w) ∨
  (Region.wanted o (yielded ops a.tmps) = false ∧ v = undef) ∨
  (Region.wanted o (yielded ops a.tmps) = true ∧ ∃ (f : FuncId) (args : Array Value), (∀ w, C w → (execOp a.eval o).run P w = .ok (.enter f args) w) ∧ ∀ w, C w → Calls P f args w fun e w' => e = .returned v ∧ w = w')
theorem YieldsK.wpOp {i : Nat} {o : Oper} {v : Value} {a : Act} (hi : ops[i]? = some o) (hy : YieldsK P ops C o v a)
    {K : Act → World → Prop} {w : World} (hC : C w) (h : K (a.put o.dst v) w) : wpOp P ops Q i K a w := by
  unfold Go.wpOp
  simp only [hi]
  rcases hy with ⟨hw, hv⟩ | ⟨hw, rfl⟩ | ⟨hw, f, args, hr, hc⟩
  · simp only [hw, if_true, Oper.wp, hv w hC, Oper.upon]; exact .inl h
  · simp only [hw, Bool.false_eq_true, if_false]; exact h
  · simp only [hw, if_true, Oper.wp, hr w hC, Oper.upon]
    refine .inl ((hc w hC).mono ?_)
    rintro e w' ⟨rfl, rfl⟩
    exact h
theorem YieldsK.of_same {o : Oper} {v : Value} {a a' : Act} (hy : YieldsK P ops C o v a) (he : execOp a'.eval o = execOp a.eval o)
    (hw : Region.wanted o (yielded ops a'.tmps) = Region.wanted o (yielded ops a.tmps)) : YieldsK P ops C o v a' := by
  unfold YieldsK at *
  rw [he, hw]
  exact hy

theorem wpOp_putK {j : Nat} {oi oj : Oper} {v : Value} (hj : ops[j]? = some oj) (hap : oi.apart ops oj = true)
    (hsi : ∀ cs b, oi.op ≠ .select cs b) (hsj : ∀ cs b, oj.op ≠ .select cs b)
    (hQ : ∀ c a w, ¬ Q (.panic c) a w) {K : Act → World → Prop} {a : Act} {w : World}
    (hy : YieldsK P ops C oi v a) (h : wpOp P ops Q j K (a.put oi.dst v) w) :
    wpOp P ops Q j (fun a' w' => YieldsK P ops C oi v a' ∧ K (a'.put oi.dst v) w') a w := by
  obtain ⟨h1, h2, h3⟩ := Oper.apart_spec hap
  have keep : ∀ (a : Act), YieldsK P ops C oi v a → ∀ u, YieldsK P ops C oi v (a.put oj.dst u) := fun a hy u =>
    hy.of_same (execOp_put oi hsi a oj.dst u h3) (wanted_put oi a oj.dst u h3)
  have keepD : ∀ d, YieldsK P ops C oi v { a with defers := d :: a.defers } := fun d => hy.of_same rfl rfl
  unfold wpOp at *
  simp only [hj] at *
  rw [wanted_put oj a oi.dst v h1] at h
  split
  · rename_i hw
    simp only [hw, if_true] at h
    rcases h with h | ⟨hasks, hlets⟩
    case inr => exact .inr ⟨by unfold Oper.asks at *; rw [execOp_put oj hsj a oi.dst v h1] at hasks; exact hasks, hlets⟩
    refine .inl ?_
    unfold Oper.wp at *
    rw [execOp_put oj hsj a oi.dst v h1] at h
    generalize (execOp a.eval oj).run P w = r at *
    cases r with
    | ok n w' =>
      cases n <;> simp only [Oper.upon] at h ⊢
      case value u => exact ⟨keep a hy u, by rw [← Act.put_comm a v u h2]; exact h⟩
      case skip => exact ⟨keep a hy _, by rw [← Act.put_comm a v undef h2]; exact h⟩
      case defer d =>
        refine ⟨keep _ (keepD d) _, ?_⟩
        rw [← Act.put_comm _ v undef h2, ← Act.put_defers]
        exact h
      case enter f args =>
        refine Calls.mono h fun e w'' he => ?_
        cases e with
        | returned u => exact ⟨keep a hy u, by rw [← Act.put_comm a v u h2]; exact he⟩
        | panicked c => exact absurd he (hQ _ _ _)
        | outgrown => exact he
      case row row args => exact Rows.mono h fun u w'' he => ⟨keep a hy u, by rw [← Act.put_comm a v u h2]; exact he⟩
    | halt x w' =>
      cases x <;> simp only [Oper.upon] at h ⊢
      case panic u => exact absurd h (hQ _ _ _)
  · rename_i hw
    simp only [hw] at h
    exact ⟨keep a hy _, by rw [← Act.put_comm a v undef h2]; exact h⟩

theorem wpAnyK_first {i : Nat} {oi : Oper} {v : Value} (hi : ops[i]? = some oi) (hsel : ∀ (j : Nat) (o : Oper) cs b, ops[j]? = some o → o.op ≠ .select cs b) (hQ : ∀ c a w, ¬ Q (.panic c) a w) :
    ∀ (fuel : Nat) (listed : Array Bool) (a : Act) (w : World), C w →
      (∀ j oj, ops[j]? = some oj → j ≠ i → listed.getD j true = false → (∀ e ∈ oj.after, Region.binds md e = true → e.on ≠ i) → oi.apart ops oj = true) →
      i ∈ Region.ready md ops listed → YieldsK P ops C oi v a →
      wpAnyC P md ops C Q fuel (listed.setIfInBounds i true) (a.put oi.dst v) w → wpAnyC P md ops C Q (fuel + 1) listed a w := by
  intro fuel
  induction fuel with
  | zero =>
    intro listed a w hC _ hr hy H
    refine ⟨fun h => (by rw [h] at hr; cases hr), fun j hj => ?_⟩
    by_cases hji : j = i
    · subst hji; exact hy.wpOp hi hC ⟨hC, H⟩
    · have := ready_mono hj hji
      rw [H.1] at this
      cases this
  | succ fuel ih =>
    intro listed a w hC hfree hr hy H
    refine ⟨fun h => (by rw [h] at hr; cases hr), fun j hj => ?_⟩
    by_cases hji : j = i
    · subst hji; exact hy.wpOp hi hC ⟨hC, H⟩
    · have h1 := H.2 j (ready_mono hj hji)
      obtain ⟨hjun, oj, hoj, hall⟩ := mem_ready.1 hj
      have hnot : ∀ e ∈ oj.after, Region.binds md e = true → e.on ≠ i := fun e he hb heq => by
        have h1 := hall e he hb
        have h0 := (mem_ready.1 hr).1
        rw [heq, getD_both h0] at h1
        cases h1
      have h2 := wpOp_putK hoj (hfree j oj hoj hji hjun hnot) (fun cs b => hsel i oi cs b hi) (fun cs b => hsel j oj cs b hoj) hQ hy h1
      have hfree' : ∀ k ok, ops[k]? = some ok → k ≠ i → (listed.setIfInBounds j true).getD k true = false →
          (∀ e ∈ ok.after, Region.binds md e = true → e.on ≠ i) → oi.apart ops ok = true := fun k ok hk hki hun hno => by
        refine hfree k ok hk hki ?_ hno
        by_cases hjk : j = k
        · subst hjk; exact hjun
        · rw [getD_set_ne true hjk] at hun; exact hun
      refine wpOp_mono (fun a' w' h3 => ⟨h3.2.1, ih (listed.setIfInBounds j true) a' w' h3.2.1 hfree' (ready_mono hr (Ne.symm hji)) h3.1 ?_⟩) h2
      rw [Array.setIfInBounds_comm _ _ hji]
      exact h3.2.2

/-- the walk of those. -/
def wpPureK (P : Program) (ops : Array Oper) (C : World → Prop) (K : Act → Prop) : List Oper → Act → Prop
  | [], a => K a
  | o :: r, a => ∃ v, YieldsK P ops C o v a ∧ wpPureK P ops C K r (a.put o.dst v)
theorem wpAnyK_pure (hsel : Region.noSelect ops = true) (hQ : ∀ c a w, ¬ Q (.panic c) a w) {w : World} (hC : C w) {g : Nat} : ∀ (qs : List Nat) (l : List Oper) (listed : Array Bool) (a : Act), qs.map (fun i => ops[i]?) = l.map some →
    Region.firstB md ops qs listed = true → wpPureK P ops C (fun a' => wpAnyC P md ops C Q g (listAll listed qs) a' w) l a → wpAnyC P md ops C Q (g + qs.length) listed a w
  | [], [], listed, a, _, _, h => h
  | [], _ :: _, _, _, hm, _, _ => by cases hm
  | _ :: _, [], _, _, hm, _, _ => by cases hm
  | q :: qs, o :: l, listed, a, hm, hB, h => by
    simp only [List.map_cons, List.cons.injEq] at hm
    simp only [Region.firstB, Bool.and_eq_true] at hB
    obtain ⟨v, hy, hK⟩ := h
    exact wpAnyK_first hm.1 (Region.noSelect_spec hsel) hQ (g + qs.length) listed a w hC (Region.free_spec hm.1 hB.1.2) (by simpa using hB.1.1) hy
      (wpAnyK_pure hsel hQ hC qs l _ _ hm.2 hB.2 hK)

theorem wp_regionK {id : Nat} {Q : Exit → Act → World → Prop} {a : Act} {w : World} {l : List Oper} (qs : List Nat) (lo : List Oper) (g : Nat) (hlo : qs.map (fun i => l.toArray[i]?) = lo.map some) (hg : g + qs.length = l.length) (hm : P.follows .mixedOrders = true)
    (hsel : Region.noSelect l.toArray = true) (hB : Region.firstB .any l.toArray qs (Array.replicate l.length false) = true) (hC : C { w with drawn := w.drawn + 1 })
    (h : wpPureK P l.toArray C (fun a' => wpAnyC P .any l.toArray C (NoPanic Q) g (listAll (Array.replicate l.length false) qs) a' { w with drawn := w.drawn + 1 }) lo a) : (Code.region id l.toArray true).wp P Q a w := by
  refine wp_region_noPanic (wp_region_any hm ?_)
  have := wpAnyK_pure (md := .any) hsel (fun c a w h => h) hC qs lo _ a hlo hB h
  rw [hg] at this
  simpa using wpAny_of_C _ _ _ _ this
theorem wpOp_of_list {i : Nat} {o : Oper} (hi : ops[i]? = some o) {K : Act → World → Prop} {a : Act} {w : World}
    (h : wpList P ops (fun e a' w' => match e with | .normal => K a' w' | e => NoPanic Q e a' w') [o] a w) : wpOp P ops (NoPanic Q) i K a w := by
  unfold wpOp
  simp only [hi]
  unfold wpList at h
  split at h
  · next hw =>
    rw [if_pos hw]
    rcases h with h | ⟨h1, h2⟩
    · left; exact h
    · right; exact ⟨h1, h2⟩
  · next hw =>
    rw [if_neg hw]
    exact h
end
section
variable {P : Program} {ops : Array Oper} {w : World} {a : Act} {ty : TypeId} {p : String} {af : Array Edge} {g : Option (Nat × Bool)} {d : Tmp}
theorem yieldsK_val {C : World → Prop} {o : Oper} {v : Value} (hg : Region.wanted o (yielded ops a.tmps) = true) (h : ∀ w, (execOp a.eval o).run P w = .ok (.value v) w) : YieldsK P ops C o v a := .inl ⟨hg, fun w _ => h w⟩
theorem yieldsK_cell {e : TypeId} {s : Operand} {x : Addr} {v : Value} (hF : Flat P e) (hb : w.cell? x = some v) (hg : Region.wanted (⟨some d, .load e s, ty, p, af, g⟩ : Oper) (yielded ops a.tmps) = true) (hs : a.eval s = .pointer (some x)) :
    YieldsK P ops (Below w.heap.size w) ⟨some d, .load e s, ty, p, af, g⟩ v a := by
  refine .inl ⟨hg, fun w' hw' => ?_⟩
  have hc : w'.cell? x = some v := (hw'.cell (World.block_lt_of_cell? w _ hb)).trans hb
  simp [execOp, hs, run_loadAt_cell w' hF hc, Result.andThen]
theorem yieldsK_idx {sz bytes : Nat} {t e : TypeId} {z : Value} {b of cap n : Nat} {k : Int} {s x : Operand} {C : World → Prop} (E : ETy P t e z sz bytes) (h0 : 0 ≤ k) (hlt : k < n) (hg : Region.wanted (⟨some d, .indexAddr t s x, ty, p, af, g⟩ : Oper) (yielded ops a.tmps) = true)
    (hs : a.eval s = .slice (some ⟨b, of, none⟩) n cap) (hx : a.eval x = .int .i64 k) :
    YieldsK P ops C ⟨some d, .indexAddr t s x, ty, p, af, g⟩ (.pointer (some ⟨b, of + k.toNat * sz, none⟩)) a := by
  refine .inl ⟨hg, fun w' _ => ?_⟩
  have h1 := run_indexAt_sl (P := P) (a := ⟨b, of, none⟩) (cap := cap) w' E h0 hlt
  rw [Addr.add_z] at h1
  simp [execOp, hs, hx, h1, Result.andThen]
theorem yieldsK_call {C : World → Prop} {o : Oper} {v : Value} {f : FuncId} {args : Array Value} (hg : Region.wanted o (yielded ops a.tmps) = true) (hr : ∀ w, (execOp a.eval o).run P w = .ok (.enter f args) w)
    (hc : ∀ w, Calls P f args w fun e w' => e = .returned v ∧ w = w') : YieldsK P ops C o v a := .inr (.inr ⟨hg, f, args, fun w _ => hr w, fun w _ => hc w⟩)
end
end Go.Proofs.YtogbclcnmogaeaaGreatDoor
