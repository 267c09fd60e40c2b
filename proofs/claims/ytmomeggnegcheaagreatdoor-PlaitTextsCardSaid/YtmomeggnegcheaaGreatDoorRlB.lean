/- Plain laws: steps of a region that is walked by hand after its reads. No condition beyond each statement's own. Plain laws: reads and calls that leave the world as it is may be taken first in a region that draws its order; an operation walked as one of a list. No condition beyond each statement's own. Plain facts on strands that do not alternate. Conditions: as stated. -/
import Derived.Test.YtmomeggnegcheaaGreatDoorLtA
set_option linter.all false
/- Plain laws: steps of a region that is walked by hand after its reads. No condition beyond each statement's own. -/
namespace Go.Proofs.YtmomeggnegcheaaGreatDoor
open Go.RowKit
section
variable {P : Program} {ops : Array Oper} {Q : Exit → Act → World → Prop} {C : World → Prop}
theorem yieldsC_loadS {w : World} {d : Tmp} {e : TypeId} {s : Operand} {ty : TypeId} {p : String} {af : Array Edge} {g : Option (Nat × Bool)} {a : Act} {b o n : Nat} {cs us : Array Value} {T : TypeId} {fr : Nat × Nat} (hF : Aggr P e) (hn : (P.info? e).map (·.size) = some n)
   (hb : w.heap[b]? = some (.cells cs T fr)) (hv : (cs.toList.drop o).take n = us.toList) (hz : us.size = n) (hs : a.eval s = .pointer (some ⟨b, o, none⟩)) (hg : Region.wanted (⟨some d, .load e s, ty, p, af, g⟩ : Oper) (yielded ops a.tmps) = true) : YieldsC P ops (Below w.heap.size w) ⟨some d, .load e s, ty, p, af, g⟩ (.agg us) a := by
  refine .inl ⟨hg, fun w' hw' => ?_⟩
  obtain ⟨i, hi, hs2⟩ : ∃ i, P.info? e = some i ∧ i.size = n := by
    cases hi : P.info? e with
    | none => rw [hi] at hn; cases hn
    | some i => rw [hi] at hn; exact ⟨i, rfl, by simpa using hn⟩
  have := run_loadAt_agg (a := ⟨b, o, none⟩) w' hF hi (cs := us.toList) (by simp [hs2, hz]) (fun j v hj => by
    have hj2 : us[j]? = some v := by simpa using hj
    have hjn : j < n := by rw [← hz]; exact (Array.getElem?_eq_some_iff.1 hj2).1
    have hcs : cs[o + j]? = some v := by
      have : us.toList[j]? = some v := by simpa using hj
      rw [← hv, List.getElem?_take, if_pos hjn, List.getElem?_drop] at this
      simpa using this
    rw [Addr.add_z]
    simp [World.cell?, hw'.block b (Array.getElem?_eq_some_iff.1 hb).1, hb, hcs])
  rw [Array.toArray_toList] at this
  simp [execOp, hs, this, Result.andThen]
theorem wpOp_call {i : Nat} {o : Oper} {f : FuncId} {args : Array Value} {a : Act} {w : World} (hi : ops[i]? = some o) (hw : Region.wanted o (yielded ops a.tmps) = true) (hrun : (execOp a.eval o).run P w = .ok (.enter f args) w) {K : Act → World → Prop}
   (h : Calls P f args w fun e w' => ∃ v, e = .returned v ∧ K (a.put o.dst v) w') : wpOp P ops Q i K a w := by
  unfold wpOp
  simp only [hi, hw, if_true, Oper.wp, hrun, Oper.upon]
  refine .inl (h.mono ?_)
  rintro e w' ⟨v, rfl, hK⟩
  exact hK
/-- what is left gives the same in every world of the class: in any order. -/
theorem wpAnyC_rest {md : Region.Mode} {w : World} {listed : Array Bool} {a : Act} {n : Nat} (qs : List Nat) (lo : List Oper) (hn : n = qs.length) (hlo : qs.map (fun i => ops[i]?) = lo.map some) (hsel : Region.noSelect ops = true) (hB : Region.firstB md ops qs listed = true)
   (hr : Region.ready md ops (listAll listed qs) = []) (hC : C w) (h : wpPure P ops C (fun a' => Q .normal a' w) lo a) : wpAnyC P md ops C (NoPanic Q) n listed a w := by
  subst hn
  have := wpAnyC_pure (g := 0) hsel (fun c a w h => h) hC qs lo listed a hlo hB (C := C) (Q := NoPanic Q) (P := P) (md := md)
  rw [Nat.zero_add] at this
  refine this ?_
  clear this
  revert h
  have : ∀ (l : List Oper) (a : Act), wpPure P ops C (fun a' => Q .normal a' w) l a → wpPure P ops C (fun a' => wpAnyC P md ops C (NoPanic Q) 0 (listAll listed qs) a' w) l a := by
    intro l
    induction l with
    | nil => intro a h; exact ⟨hr, h⟩
    | cons o r ih => intro a ⟨v, hy, hk⟩; exact ⟨v, hy, ih _ hk⟩
  exact this lo a
end
end Go.Proofs.YtmomeggnegcheaaGreatDoor

/- Plain laws: reads and calls that leave the world as it is may be taken first in a region that draws its order; an operation walked as one of a list. No condition beyond each statement's own. -/
namespace Go.Proofs.YtmomeggnegcheaaGreatDoor
open Go.RowKit
section
variable {P : Program} {ops : Array Oper} {Q : Exit → Act → World → Prop} {md : Region.Mode} {C : World → Prop}

/-- the same value in every world of the class, the world left alone. -/
def YieldsK (P : Program) (ops : Array Oper) (C : World → Prop) (o : Oper) (v : Value) (a : Act) : Prop :=
  (Region.wanted o (yielded ops a.tmps) = true ∧ ∀ w, C w → (execOp a.eval o).run P w = .ok (.value v) w) ∨
  (Region.wanted o (yielded ops a.tmps) = false ∧ v = undef) ∨
  (Region.wanted o (yielded ops a.tmps) = true ∧ ∃ (f : FuncId) (args : Array Value), (∀ w, C w → (execOp a.eval o).run P w = .ok (.enter f args) w) ∧ ∀ w, C w → Calls P f args w fun e w' => e = .returned v ∧ w = w')
theorem YieldsK.wpOp {i : Nat} {o : Oper} {v : Value} {a : Act} (hi : ops[i]? = some o) (hy : YieldsK P ops C o v a)
    {K : Act → World → Prop} {w : World} (hC : C w) (h : K (a.put o.dst v) w) : wpOp P ops Q i K a w := by
  unfold Go.wpOp
  simp only [hi]
  rcases hy with ⟨hw, hv⟩ | ⟨hw, rfl⟩ | ⟨hw, f, args, hr, hc⟩
  · simp only [hw, if_true, Oper.wp, hv w hC, Oper.upon]; exact .inl h
  · simp only [hw, Bool.false_eq_true, if_false]; exact h
  · simp only [hw, if_true, Oper.wp, hr w hC, Oper.upon]
    refine .inl ((hc w hC).mono ?_)
    rintro e w' ⟨rfl, rfl⟩
    exact h
theorem YieldsK.of_same {o : Oper} {v : Value} {a a' : Act} (hy : YieldsK P ops C o v a) (he : execOp a'.eval o = execOp a.eval o)
    (hw : Region.wanted o (yielded ops a'.tmps) = Region.wanted o (yielded ops a.tmps)) : YieldsK P ops C o v a' := by
  unfold YieldsK at *
  rw [he, hw]
  exact hy

theorem wpOp_putK {j : Nat} {oi oj : Oper} {v : Value} (hj : ops[j]? = some oj) (hap : oi.apart ops oj = true)
    (hsi : ∀ cs b, oi.op ≠ .select cs b) (hsj : ∀ cs b, oj.op ≠ .select cs b)
    (hQ : ∀ c a w, ¬ Q (.panic c) a w) {K : Act → World → Prop} {a : Act} {w : World}
    (hy : YieldsK P ops C oi v a) (h : wpOp P ops Q j K (a.put oi.dst v) w) :
    wpOp P ops Q j (fun a' w' => YieldsK P ops C oi v a' ∧ K (a'.put oi.dst v) w') a w := by
  obtain ⟨h1, h2, h3⟩ := Oper.apart_spec hap
  have keep : ∀ (a : Act), YieldsK P ops C oi v a → ∀ u, YieldsK P ops C oi v (a.put oj.dst u) := fun a hy u =>
    hy.of_same (execOp_put oi hsi a oj.dst u h3) (wanted_put oi a oj.dst u h3)
  have keepD : ∀ d, YieldsK P ops C oi v { a with defers := d :: a.defers } := fun d => hy.of_same rfl rfl
  unfold wpOp at *
  simp only [hj] at *
  rw [wanted_put oj a oi.dst v h1] at h
  split
  · rename_i hw
    simp only [hw, if_true] at h
    rcases h with h | ⟨hasks, hlets⟩
    case inr => exact .inr ⟨by unfold Oper.asks at *; rw [execOp_put oj hsj a oi.dst v h1] at hasks; exact hasks, hlets⟩
    refine .inl ?_
    unfold Oper.wp at *
    rw [execOp_put oj hsj a oi.dst v h1] at h
    generalize (execOp a.eval oj).run P w = r at *
    cases r with
    | ok n w' =>
      cases n <;> simp only [Oper.upon] at h ⊢
      case value u => exact ⟨keep a hy u, by rw [← Act.put_comm a v u h2]; exact h⟩
      case skip => exact ⟨keep a hy _, by rw [← Act.put_comm a v undef h2]; exact h⟩
      case defer d =>
        refine ⟨keep _ (keepD d) _, ?_⟩
        rw [← Act.put_comm _ v undef h2, ← Act.put_defers]
        exact h
      case enter f args =>
        refine Calls.mono h fun e w'' he => ?_
        cases e with
        | returned u => exact ⟨keep a hy u, by rw [← Act.put_comm a v u h2]; exact he⟩
        | panicked c => exact absurd he (hQ _ _ _)
        | outgrown => exact he
      case row row args => exact Rows.mono h fun u w'' he => ⟨keep a hy u, by rw [← Act.put_comm a v u h2]; exact he⟩
    | halt x w' =>
      cases x <;> simp only [Oper.upon] at h ⊢
      case panic u => exact absurd h (hQ _ _ _)
  · rename_i hw
    simp only [hw] at h
    exact ⟨keep a hy _, by rw [← Act.put_comm a v undef h2]; exact h⟩

theorem wpAnyK_first {i : Nat} {oi : Oper} {v : Value} (hi : ops[i]? = some oi) (hsel : ∀ (j : Nat) (o : Oper) cs b, ops[j]? = some o → o.op ≠ .select cs b) (hQ : ∀ c a w, ¬ Q (.panic c) a w) :
    ∀ (fuel : Nat) (listed : Array Bool) (a : Act) (w : World), C w →
      (∀ j oj, ops[j]? = some oj → j ≠ i → listed.getD j true = false → (∀ e ∈ oj.after, Region.binds md e = true → e.on ≠ i) → oi.apart ops oj = true) →
      i ∈ Region.ready md ops listed → YieldsK P ops C oi v a →
      wpAnyC P md ops C Q fuel (listed.setIfInBounds i true) (a.put oi.dst v) w → wpAnyC P md ops C Q (fuel + 1) listed a w := by
  intro fuel
  induction fuel with
  | zero =>
    intro listed a w hC _ hr hy H
    refine ⟨fun h => (by rw [h] at hr; cases hr), fun j hj => ?_⟩
    by_cases hji : j = i
    · subst hji; exact hy.wpOp hi hC ⟨hC, H⟩
    · have := ready_mono hj hji
      rw [H.1] at this
      cases this
  | succ fuel ih =>
    intro listed a w hC hfree hr hy H
    refine ⟨fun h => (by rw [h] at hr; cases hr), fun j hj => ?_⟩
    by_cases hji : j = i
    · subst hji; exact hy.wpOp hi hC ⟨hC, H⟩
    · have h1 := H.2 j (ready_mono hj hji)
      obtain ⟨hjun, oj, hoj, hall⟩ := mem_ready.1 hj
      have hnot : ∀ e ∈ oj.after, Region.binds md e = true → e.on ≠ i := fun e he hb heq => by
        have h1 := hall e he hb
        have h0 := (mem_ready.1 hr).1
        rw [heq, getD_both h0] at h1
        cases h1
      have h2 := wpOp_putK hoj (hfree j oj hoj hji hjun hnot) (fun cs b => hsel i oi cs b hi) (fun cs b => hsel j oj cs b hoj) hQ hy h1
      have hfree' : ∀ k ok, ops[k]? = some ok → k ≠ i → (listed.setIfInBounds j true).getD k true = false →
          (∀ e ∈ ok.after, Region.binds md e = true → e.on ≠ i) → oi.apart ops ok = true := fun k ok hk hki hun hno => by
        refine hfree k ok hk hki ?_ hno
        by_cases hjk : j = k
        · subst hjk; exact hjun
        · rw [getD_set_ne true hjk] at hun; exact hun
      refine wpOp_mono (fun a' w' h3 => ⟨h3.2.1, ih (listed.setIfInBounds j true) a' w' h3.2.1 hfree' (ready_mono hr (Ne.symm hji)) h3.1 ?_⟩) h2
      rw [Array.setIfInBounds_comm _ _ hji]
      exact h3.2.2

/-- the walk of those. -/
def wpPureK (P : Program) (ops : Array Oper) (C : World → Prop) (K : Act → Prop) : List Oper → Act → Prop
  | [], a => K a
  | o :: r, a => ∃ v, YieldsK P ops C o v a ∧ wpPureK P ops C K r (a.put o.dst v)
theorem wpAnyK_pure (hsel : Region.noSelect ops = true) (hQ : ∀ c a w, ¬ Q (.panic c) a w) {w : World} (hC : C w) {g : Nat} : ∀ (qs : List Nat) (l : List Oper) (listed : Array Bool) (a : Act), qs.map (fun i => ops[i]?) = l.map some →
    Region.firstB md ops qs listed = true → wpPureK P ops C (fun a' => wpAnyC P md ops C Q g (listAll listed qs) a' w) l a → wpAnyC P md ops C Q (g + qs.length) listed a w
  | [], [], listed, a, _, _, h => h
  | [], _ :: _, _, _, hm, _, _ => by cases hm
  | _ :: _, [], _, _, hm, _, _ => by cases hm
  | q :: qs, o :: l, listed, a, hm, hB, h => by
    simp only [List.map_cons, List.cons.injEq] at hm
    simp only [Region.firstB, Bool.and_eq_true] at hB
    obtain ⟨v, hy, hK⟩ := h
    exact wpAnyK_first hm.1 (Region.noSelect_spec hsel) hQ (g + qs.length) listed a w hC (Region.free_spec hm.1 hB.1.2) (by simpa using hB.1.1) hy
      (wpAnyK_pure hsel hQ hC qs l _ _ hm.2 hB.2 hK)

theorem wp_regionK {id : Nat} {Q : Exit → Act → World → Prop} {a : Act} {w : World} {l : List Oper} (qs : List Nat) (lo : List Oper) (g : Nat) (hlo : qs.map (fun i => l.toArray[i]?) = lo.map some) (hg : g + qs.length = l.length) (hm : P.follows .mixedOrders = true)
    (hsel : Region.noSelect l.toArray = true) (hB : Region.firstB .any l.toArray qs (Array.replicate l.length false) = true) (hC : C { w with drawn := w.drawn + 1 })
    (h : wpPureK P l.toArray C (fun a' => wpAnyC P .any l.toArray C (NoPanic Q) g (listAll (Array.replicate l.length false) qs) a' { w with drawn := w.drawn + 1 }) lo a) : (Code.region id l.toArray true).wp P Q a w := by
  refine wp_region_noPanic (wp_region_any hm ?_)
  have := wpAnyK_pure (md := .any) hsel (fun c a w h => h) hC qs lo _ a hlo hB h
  rw [hg] at this
  simpa using wpAny_of_C _ _ _ _ this
theorem wpOp_of_list {i : Nat} {o : Oper} (hi : ops[i]? = some o) {K : Act → World → Prop} {a : Act} {w : World}
    (h : wpList P ops (fun e a' w' => match e with | .normal => K a' w' | e => NoPanic Q e a' w') [o] a w) : wpOp P ops (NoPanic Q) i K a w := by
  unfold wpOp
  simp only [hi]
  unfold wpList at h
  split at h
  · next hw =>
    rw [if_pos hw]
    rcases h with h | ⟨h1, h2⟩
    · left; exact h
    · right; exact ⟨h1, h2⟩
  · next hw =>
    rw [if_neg hw]
    exact h
end
section
variable {P : Program} {ops : Array Oper} {w : World} {a : Act} {ty : TypeId} {p : String} {af : Array Edge} {g : Option (Nat × Bool)} {d : Tmp}
theorem yieldsK_val {C : World → Prop} {o : Oper} {v : Value} (hg : Region.wanted o (yielded ops a.tmps) = true) (h : ∀ w, (execOp a.eval o).run P w = .ok (.value v) w) : YieldsK P ops C o v a := .inl ⟨hg, fun w _ => h w⟩
theorem yieldsK_cell {e : TypeId} {s : Operand} {x : Addr} {v : Value} (hF : Flat P e) (hb : w.cell? x = some v) (hg : Region.wanted (⟨some d, .load e s, ty, p, af, g⟩ : Oper) (yielded ops a.tmps) = true) (hs : a.eval s = .pointer (some x)) :
    YieldsK P ops (Below w.heap.size w) ⟨some d, .load e s, ty, p, af, g⟩ v a := by
  refine .inl ⟨hg, fun w' hw' => ?_⟩
  have hc : w'.cell? x = some v := (hw'.cell (World.block_lt_of_cell? w _ hb)).trans hb
  simp [execOp, hs, run_loadAt_cell w' hF hc, Result.andThen]
theorem yieldsK_idx {sz bytes : Nat} {t e : TypeId} {z : Value} {b of cap n : Nat} {k : Int} {s x : Operand} {C : World → Prop} (E : ETy P t e z sz bytes) (h0 : 0 ≤ k) (hlt : k < n) (hg : Region.wanted (⟨some d, .indexAddr t s x, ty, p, af, g⟩ : Oper) (yielded ops a.tmps) = true)
    (hs : a.eval s = .slice (some ⟨b, of, none⟩) n cap) (hx : a.eval x = .int .i64 k) :
    YieldsK P ops C ⟨some d, .indexAddr t s x, ty, p, af, g⟩ (.pointer (some ⟨b, of + k.toNat * sz, none⟩)) a := by
  refine .inl ⟨hg, fun w' _ => ?_⟩
  have h1 := run_indexAt_sl (P := P) (a := ⟨b, of, none⟩) (cap := cap) w' E h0 hlt
  rw [Addr.add_z] at h1
  simp [execOp, hs, hx, h1, Result.andThen]
theorem yieldsK_call {C : World → Prop} {o : Oper} {v : Value} {f : FuncId} {args : Array Value} (hg : Region.wanted o (yielded ops a.tmps) = true) (hr : ∀ w, (execOp a.eval o).run P w = .ok (.enter f args) w)
    (hc : ∀ w, Calls P f args w fun e w' => e = .returned v ∧ w = w') : YieldsK P ops C o v a := .inr (.inr ⟨hg, f, args, fun w _ => hr w, fun w _ => hc w⟩)
end
end Go.Proofs.YtmomeggnegcheaaGreatDoor

/- Plain facts on strands that do not alternate. Conditions: as stated. -/
namespace Go.Proofs.YtmomeggnegcheaaGreatDoor

/-- the side of a strand at a crossing: 1 above, -1 below, 0 elsewhere. -/
def sideOf (s : Int) (p : Int × Int) : Int := if p.2 = s then -1 else if p.1 = s then 1 else 0
/-- a strand has two crossings, one after the other, on the same side. -/
def failGo (s : Int) : Int → List (Int × Int) → Bool
  | _, [] => false
  | last, p :: r => if sideOf s p ≠ 0 ∧ sideOf s p = last then true else failGo s (if sideOf s p ≠ 0 then sideOf s p else last) r
theorem fail_one {s : Int} {f : Int → Int} {p : Int × Int} {r : List (Int × Int)} (h : p.1 ≠ p.2) (hs : s = p.1) : failGo s (f s) (p :: r) = if f s = 1 then true else failGo s (altLast f p s) r := by
  have e : sideOf s p = 1 := by unfold sideOf; rw [if_neg (by omega), if_pos hs.symm]
  have e2 : altLast f p s = 1 := by unfold altLast; rw [if_pos hs]
  rw [failGo, e, e2]
  by_cases h1 : f s = 1
  · rw [if_pos ⟨by omega, h1.symm⟩, if_pos h1]
  · rw [if_neg (fun hh => h1 hh.2.symm), if_neg h1, if_pos (by omega)]
theorem fail_two {s : Int} {f : Int → Int} {p : Int × Int} {r : List (Int × Int)} (h : p.1 ≠ p.2) (hs : s = p.2) : failGo s (f s) (p :: r) = if f s = -1 then true else failGo s (altLast f p s) r := by
  have e : sideOf s p = -1 := by unfold sideOf; rw [if_pos hs.symm]
  have e2 : altLast f p s = -1 := by unfold altLast; rw [if_neg (by omega), if_pos hs]
  rw [failGo, e, e2]
  by_cases h1 : f s = -1
  · rw [if_pos ⟨by omega, h1.symm⟩, if_pos h1]
  · rw [if_neg (fun hh => h1 hh.2.symm), if_neg h1, if_pos (by omega)]
theorem fail_else {s : Int} {f : Int → Int} {p : Int × Int} {r : List (Int × Int)} (h1 : s ≠ p.1) (h2 : s ≠ p.2) : failGo s (f s) (p :: r) = failGo s (altLast f p s) r := by
  have e : sideOf s p = 0 := by unfold sideOf; rw [if_neg (fun h => h2 h.symm), if_neg (fun h => h1 h.symm)]
  have e2 : altLast f p s = f s := by unfold altLast; rw [if_neg h1, if_neg h2]
  rw [failGo, e, e2, if_neg (fun hh => hh.1 rfl), if_neg (fun hh => hh rfl)]
theorem altLeast_spec (f : Int → Int) (least : Int) (p : Int × Int) (h0 : 0 ≤ least) (h1 : 1 ≤ p.1) (h2 : 1 ≤ p.2) :
    0 ≤ altLeast f least p ∧ (least ≠ 0 → altLeast f least p ≠ 0 ∧ altLeast f least p ≤ least) ∧ (f p.1 = 1 → altLeast f least p ≠ 0 ∧ altLeast f least p ≤ p.1) ∧ (f p.2 = -1 → altLeast f least p ≠ 0 ∧ altLeast f least p ≤ p.2) ∧
    (altLeast f least p = least ∨ (altLeast f least p = p.1 ∧ f p.1 = 1) ∨ (altLeast f least p = p.2 ∧ f p.2 = -1)) := by
  have hm : ∀ a s : Int, 0 ≤ a → 1 ≤ s → 0 ≤ minZ a s ∧ minZ a s ≠ 0 ∧ minZ a s ≤ s ∧ (a ≠ 0 → minZ a s ≤ a) ∧ (minZ a s = a ∨ minZ a s = s) := by
    intro a s ha hs
    unfold minZ
    split <;> omega
  have m1 := hm least p.1 h0 h1
  have m2 := hm least p.2 h0 h2
  have m3 := hm (minZ least p.1) p.2 m1.1 h2
  have e : altLeast f least p = if f p.2 = -1 then minZ (if f p.1 = 1 then minZ least p.1 else least) p.2 else (if f p.1 = 1 then minZ least p.1 else least) := rfl
  obtain ⟨R, hR⟩ : ∃ R, R = altLeast f least p := ⟨_, rfl⟩
  rw [← hR] at e ⊢
  by_cases c1 : f p.1 = 1
  · by_cases c2 : f p.2 = -1
    · rw [if_pos c2, if_pos c1] at e; omega
    · rw [if_neg c2, if_pos c1] at e; omega
  · by_cases c2 : f p.2 = -1
    · rw [if_pos c2, if_neg c1] at e; omega
    · rw [if_neg c2, if_neg c1] at e; omega
theorem altGo_spec : ∀ (cr : List (Int × Int)) (f : Int → Int) (least : Int), (∀ p ∈ cr, 1 ≤ p.1 ∧ 1 ≤ p.2 ∧ p.1 ≠ p.2) → 0 ≤ least →
    (∀ s, 1 ≤ s → failGo s (f s) cr = true → altGo f least cr ≠ 0 ∧ altGo f least cr ≤ s) ∧ (least ≠ 0 → altGo f least cr ≠ 0 ∧ altGo f least cr ≤ least) ∧
    (altGo f least cr ≠ 0 → altGo f least cr = least ∨ (1 ≤ altGo f least cr ∧ failGo (altGo f least cr) (f (altGo f least cr)) cr = true))
  | [], f, least, _, _ => ⟨fun s _ h => by simp [failGo] at h, fun h => ⟨h, Int.le_refl _⟩, fun _ => .inl rfl⟩
  | p :: r, f, least, hp, h0 => by
    obtain ⟨p1, p2, p3⟩ := hp p (by simp)
    obtain ⟨a0, a1, a2, a3, a4⟩ := altLeast_spec f least p h0 p1 p2
    obtain ⟨i1, i2, i3⟩ := altGo_spec r (altLast f p) (altLeast f least p) (fun q hq => hp q (by simp [hq])) a0
    rw [altGo]
    obtain ⟨R, hR⟩ : ∃ R, R = altGo (altLast f p) (altLeast f least p) r := ⟨_, rfl⟩
    rw [← hR] at i1 i2 i3 ⊢
    refine ⟨fun s hs hf => ?_, fun hl => ?_, fun hne => ?_⟩
    · by_cases e1 : s = p.1
      · rw [fail_one p3 e1] at hf
        by_cases c : f s = 1
        · have := a2 (by rw [← e1]; exact c)
          have := i2 this.1
          omega
        · rw [if_neg c] at hf; exact i1 s hs hf
      · by_cases e2 : s = p.2
        · rw [fail_two p3 e2] at hf
          by_cases c : f s = -1
          · have := a3 (by rw [← e2]; exact c)
            have := i2 this.1
            omega
          · rw [if_neg c] at hf; exact i1 s hs hf
        · rw [fail_else e1 e2] at hf; exact i1 s hs hf
    · have := a1 hl
      have := i2 this.1
      omega
    · rcases i3 hne with h | ⟨h1, h2⟩
      · rcases a4 with h4 | ⟨h4, h5⟩ | ⟨h4, h5⟩
        · left; rw [h, h4]
        · right
          have e : R = p.1 := h.trans h4
          refine ⟨by omega, ?_⟩
          rw [fail_one p3 e, if_pos (by rw [e]; exact h5)]
        · right
          have e : R = p.2 := h.trans h4
          refine ⟨by omega, ?_⟩
          rw [fail_two p3 e, if_pos (by rw [e]; exact h5)]
      · right
        refine ⟨h1, ?_⟩
        by_cases e1 : R = p.1
        · rw [fail_one p3 e1]; split
          · rfl
          · exact h2
        · by_cases e2 : R = p.2
          · rw [fail_two p3 e2]; split
            · rfl
            · exact h2
          · rw [fail_else e1 e2]; exact h2
theorem fail_mem {s : Int} {n : Int} : ∀ (cr : List (Int × Int)) (last : Int), pairsOk n cr → failGo s last cr = true → 1 ≤ s ∧ s ≤ n
  | [], _, _, h => by simp [failGo] at h
  | p :: r, last, hp, h => by
    have hq := hp p (by simp)
    by_cases e : sideOf s p = 0
    · rw [failGo, e, if_neg (fun hh => hh.1 rfl), if_neg (fun hh => hh rfl)] at h
      exact fail_mem r last (fun q hq => hp q (by simp [hq])) h
    · unfold sideOf at e
      split at e
      · omega
      · split at e
        · omega
        · exact absurd rfl e
theorem alt_top {n : Int} {cr : List (Int × Int)} (hok : pairsOk n cr) :
    (altGo (fun _ => 0) 0 cr = 0 → ∀ s, 1 ≤ s → failGo s 0 cr = false) ∧
    (altGo (fun _ => 0) 0 cr ≠ 0 → 1 ≤ altGo (fun _ => 0) 0 cr ∧ altGo (fun _ => 0) 0 cr ≤ n ∧ failGo (altGo (fun _ => 0) 0 cr) 0 cr = true ∧ ∀ s, 1 ≤ s → s < altGo (fun _ => 0) 0 cr → failGo s 0 cr = false) := by
  obtain ⟨h1, _, h3⟩ := altGo_spec cr (fun _ => 0) 0 (fun p hp => by have := hok p hp; exact ⟨this.1, this.2.2.1, this.2.2.2.2⟩) (Int.le_refl _)
  refine ⟨fun h s hs => ?_, fun h => ?_⟩
  · cases hf : failGo s 0 cr
    · rfl
    · exact absurd h (h1 s hs hf).1
  · rcases h3 h with h4 | ⟨h4, h5⟩
    · exact absurd h4 h
    · refine ⟨h4, (fail_mem cr 0 hok h5).2, h5, fun s hs hl => ?_⟩
      cases hf : failGo s 0 cr
      · rfl
      · have := (h1 s hs hf).2; omega
/-- the strand that a search finds, or none. -/
theorem alt_found {n : Int} {cr : List (Int × Int)} (hok : pairsOk n cr) {s : Int} (h1 : 1 ≤ s) (hf : failGo s 0 cr = true) (hb : ∀ t, 1 ≤ t → t < s → failGo t 0 cr = false) : altGo (fun _ => 0) 0 cr = s := by
  obtain ⟨t1, t2⟩ := alt_top hok
  by_cases h : altGo (fun _ => 0) 0 cr = 0
  · have := t1 h s h1; rw [hf] at this; cases this
  · obtain ⟨u1, u2, u3, u4⟩ := t2 h
    rcases Int.lt_trichotomy s (altGo (fun _ => 0) 0 cr) with hl | he | hl
    · have := u4 s h1 hl; rw [hf] at this; cases this
    · exact he.symm
    · have := hb _ u1 hl; rw [u3] at this; cases this
theorem alt_none {n : Int} {cr : List (Int × Int)} (hok : pairsOk n cr) (hb : ∀ t, 1 ≤ t → t ≤ n → failGo t 0 cr = false) : altGo (fun _ => 0) 0 cr = 0 := by
  obtain ⟨_, t2⟩ := alt_top hok
  by_cases h : altGo (fun _ => 0) 0 cr = 0
  · exact h
  · obtain ⟨u1, u2, u3, _⟩ := t2 h
    have := hb _ u1 u2; rw [u3] at this; cases this
theorem failGo_step {s last : Int} {cr : List (Int × Int)} {k : Nat} (h : k < cr.length) : failGo s last (cr.drop k) = if sideOf s (atD (0, 0) cr k) ≠ 0 ∧ sideOf s (atD (0, 0) cr k) = last then true else failGo s (if sideOf s (atD (0, 0) cr k) ≠ 0 then sideOf s (atD (0, 0) cr k) else last) (cr.drop (k + 1)) := by
  have e : atD (0, 0) cr k = cr[k] := by simp [atD, h]
  rw [List.drop_eq_getElem_cons h, failGo, e]
theorem fail_next {s la : Int} {C : List (Int × Int)} {j : Nat} {T : Bool} (hj : j < C.length) (hgo : failGo s la (C.drop j) = T) {v : Int} (hv : sideOf s (atD (0, 0) C j) = v) :
    (v ≠ 0 ∧ v = la → T = true) ∧ (¬ (v ≠ 0 ∧ v = la) → failGo s (if v ≠ 0 then v else la) (C.drop (j + 1)) = T) := by
  rw [failGo_step hj, hv] at hgo
  constructor
  · intro h; rw [if_pos h] at hgo; exact hgo.symm
  · intro h; rw [if_neg h] at hgo; exact hgo
end Go.Proofs.YtmomeggnegcheaaGreatDoor
