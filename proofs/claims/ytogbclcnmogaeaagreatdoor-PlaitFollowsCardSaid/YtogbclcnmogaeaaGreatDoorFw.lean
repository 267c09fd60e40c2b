/- Plain facts on the crossings of passes. Conditions: passes that are accepted. -/
import Derived.Test.YtogbclcnmogaeaaGreatDoorRG
import Derived.Test.YtogbclcnmogaeaaGreatDoorRPA
import Derived.Test.YtogbclcnmogaeaaGreatDoorRl3
set_option linter.all false
namespace Go.Proofs.YtogbclcnmogaeaaGreatDoor
open Go.RowKit
section
variable {P : Program} {ops : Array Oper} {w : World} {a : Act} {ty : TypeId} {p : String} {af : Array Edge} {g : Option (Nat × Bool)} {d : Tmp}
theorem yieldsK_agg {α : Type} {c : α → Value} {sz bytes : Nat} {t e : TypeId} {z : Value} {b o cap k : Nat} {l : List α} {s : Operand} {V : Value} (E : ETy P t e z sz bytes) (hF : Aggr P e) (hc : ∀ x, c x = .agg (c x).cells) (dd : α) (hR : Reps c sz w (some ⟨b, o, none⟩) cap l) (hk : k < l.length) (hV : c (atD dd l k) = V)
   (hg : Region.wanted (⟨some d, .load e s, ty, p, af, g⟩ : Oper) (yielded ops a.tmps) = true) (hs : a.eval s = .pointer (some ⟨b, o + k * sz, none⟩)) : YieldsK P ops (Below w.heap.size w) ⟨some d, .load e s, ty, p, af, g⟩ V a := by
  subst hV
  refine .inl ⟨hg, fun w' hw' => ?_⟩
  obtain ⟨b', o', e1, hcs⟩ := hR.cells E.pos dd k hk
  cases e1
  obtain ⟨i, hi, _, hsz, _⟩ := info_parts E.inf
  have h2 : (Instr.loadAt e (.pointer (some ⟨b, o + k * sz, none⟩))).run P w' = .ok (c (atD dd l k)) w' := by
    rw [run_loadAt_agg w' hF hi (cs := (c (atD dd l k)).cells.toList) (by rw [hsz]; simpa using (hR.1 _).symm) ?_]
    · rw [Array.toArray_toList, ← hc]
    · intro j v hv
      rw [Addr.add_z]
      have hcell := hcs j v hv
      exact (hw'.cell (World.block_lt_of_cell? w _ hcell)).trans hcell
  simp [execOp, hs, h2, Result.andThen]
theorem yieldsK_blk {e : TypeId} {s : Operand} {b n : Nat} {us : Array Value} {T : TypeId} {fr : Nat × Nat} (hF : Aggr P e) (hn : (P.info? e).map (·.size) = some n) (hb : w.heap[b]? = some (.cells us T fr)) (hz : us.size = n)
   (hg : Region.wanted (⟨some d, .load e s, ty, p, af, g⟩ : Oper) (yielded ops a.tmps) = true) (hs : a.eval s = .pointer (some ⟨b, 0, none⟩)) : YieldsK P ops (Below w.heap.size w) ⟨some d, .load e s, ty, p, af, g⟩ (.agg us) a := by
  rcases yieldsC_loadS (ops := ops) (ty := ty) (p := p) (af := af) (g := g) (d := d) (o := 0) (us := us) hF hn hb (by rw [List.drop_zero, List.take_of_length_le (by simp; omega)]) hz hs hg with h | h
  · exact .inl h
  · exact .inr (.inl h)
end

theorem rowGo_pre : ∀ (ws st : List Int) (cr : List (Int × Int)), ∃ v, (rowGo st cr ws).2 = cr ++ v
  | [], st, cr => ⟨[], by simp [rowGo]⟩
  | x :: r, st, cr => by
    obtain ⟨v, hv⟩ := rowGo_pre r (swapL st (absI x)) (cr ++ [crossOf st x])
    exact ⟨[crossOf st x] ++ v, by rw [rowGo, hv, List.append_assoc]⟩
theorem cross_at {st : List Int} {cr : List (Int × Int)} {x : Int} {ws : List Int} {C : List (Int × Int)} (h : (rowGo st cr (x :: ws)).2 = C) : atD (0, 0) C cr.length = crossOf st x ∧ cr.length < C.length := by
  rw [rowGo] at h
  obtain ⟨v, hv⟩ := rowGo_pre ws (swapL st (absI x)) (cr ++ [crossOf st x])
  rw [h] at hv
  subst hv
  constructor
  · unfold atD
    rw [Int.toNat_natCast, List.getD_eq_getElem?_getD, List.append_assoc, List.getElem?_append_right (Nat.le_refl _)]
    simp
  · simp
theorem lettersL_drop (p : PassV) (k : Nat) (h : k < p.way.size) : (lettersL p).drop k = letterAt p k :: (lettersL p).drop (k + 1) := by
  have h2 : k < (lettersL p).length := by rw [lettersL_len]; exact h
  rw [List.drop_eq_getElem_cons h2]
  congr 1
  simp [lettersL, lettersK]
theorem lettersAll_drop (l : List PassV) (k : Nat) (h : k < l.length) : lettersAll (l.drop k) = lettersL (atD pass0 l k) ++ lettersAll (l.drop (k + 1)) := by
  rw [List.drop_eq_getElem_cons h]
  unfold lettersAll
  rw [List.flatMap_cons]
  simp [atD, h]
/-- the word of accepted passes is a word. -/
theorem lettersAll_word {n : Int} {l : List PassV} (h : passesE n l = 0) (hl : l.length ≤ 10) : wordE n (lettersAll l) = 0 ∧ (lettersAll l).length ≤ 110 := by
  obtain ⟨h1, h2, _, hall⟩ := passesE_zero h
  have hlen : (lettersAll l).length ≤ 11 * l.length := by
    clear h hl
    induction l with
    | nil => simp [lettersAll]
    | cons p r ih =>
      have q1 := (passE_small h2 (hall p (by simp))).2.2.1
      have q2 := ih (by simp_all; omega) (fun q hq => hall q (by simp [hq]))
      unfold lettersAll at q2 ⊢
      rw [List.flatMap_cons, List.length_append, lettersL_len, List.length_cons]
      omega
  refine ⟨?_, by omega⟩
  have hs0 : strandsE n = 0 := by unfold strandsE; rw [if_neg (by omega)]
  rw [wordE_any hs0 (by omega), if_neg]
  intro ha
  obtain ⟨x, hx, ho⟩ := List.any_eq_true.1 ha
  obtain ⟨p, hp, hx⟩ := List.mem_flatMap.1 hx
  obtain ⟨_, _, f1, f2⟩ := letter_fits h2 (hall p hp) x hx
  unfold absI at f1 f2
  simp only [outB, Bool.or_eq_true, beq_iff_eq, decide_eq_true_eq] at ho
  split at f1 <;> omega
/-- the side of a strand, told as 1 or 2. -/
def sdOf (s : Int) (p : Int × Int) : Int := if p.1 = s then 1 else if p.2 = s then 2 else 0
def scanGo (s : Int) : Int → Bool → List (Int × Int) → Bool
  | _, fl, [] => fl
  | last, fl, p :: r => scanGo s (if 0 < sdOf s p then sdOf s p else last) (fl || (decide (0 < sdOf s p) && decide (sdOf s p = last))) r
def encS (la : Int) : Int := if la = 1 then 1 else if la = -1 then 2 else 0
theorem scan_fail {n : Int} : ∀ (C : List (Int × Int)) (s la : Int) (fl : Bool), pairsOk n C → (la = 0 ∨ la = 1 ∨ la = -1) → scanGo s (encS la) fl C = (fl || failGo s la C)
  | [], s, la, fl, _, _ => by simp [scanGo, failGo]
  | p :: r, s, la, fl, hp, hl => by
    have hq := hp p (by simp)
    have hr : pairsOk n r := fun q hq => hp q (by simp [hq])
    rw [scanGo, failGo]
    by_cases h1 : p.1 = s
    · have e1 : sdOf s p = 1 := by unfold sdOf; rw [if_pos h1]
      have e2 : sideOf s p = 1 := by unfold sideOf; rw [if_neg (by omega), if_pos h1]
      have e3 : (if (0 : Int) < 1 then (1 : Int) else encS la) = encS 1 := rfl
      rw [e1, e2, e3, scan_fail r s 1 _ hr (.inr (.inl rfl))]
      rcases hl with rfl | rfl | rfl <;> simp [encS]
    · by_cases h2 : p.2 = s
      · have e1 : sdOf s p = 2 := by unfold sdOf; rw [if_neg h1, if_pos h2]
        have e2 : sideOf s p = -1 := by unfold sideOf; rw [if_pos h2]
        have e3 : (if (0 : Int) < 2 then (2 : Int) else encS la) = encS (-1) := rfl
        rw [e1, e2, e3, scan_fail r s (-1) _ hr (.inr (.inr rfl))]
        rcases hl with rfl | rfl | rfl <;> simp [encS]
      · have e1 : sdOf s p = 0 := by unfold sdOf; rw [if_neg h1, if_neg h2]
        have e2 : sideOf s p = 0 := by unfold sideOf; rw [if_neg h2, if_neg h1]
        rw [e1, e2, if_neg (by omega), if_neg (fun h => h.1 rfl), if_neg (fun h => h rfl)]
        rw [scan_fail r s la _ hr hl]
        simp
theorem scan_step {s last : Int} {fl : Bool} {C : List (Int × Int)} {k : Nat} (h : k < C.length) : scanGo s last fl (C.drop k) = scanGo s (if 0 < sdOf s (atD (0, 0) C k) then sdOf s (atD (0, 0) C k) else last) (fl || (decide (0 < sdOf s (atD (0, 0) C k)) && decide (sdOf s (atD (0, 0) C k) = last))) (C.drop (k + 1)) := by
  have e : atD (0, 0) C k = C[k] := by simp [atD, h]
  rw [List.drop_eq_getElem_cons h, scanGo, e]
/-- a step along a pass: the crossing that is told, the row, and where the strand is then. -/
theorem pass_step {n f t : Int} {s : ByteArray} {st : List Int} {k : Nat} (hn : n ≤ 12) (hp : passE n ⟨f, t, s⟩ = 0) (hk : k < s.size) (hst : (st.length : Int) = n) :
    let x := letterAt ⟨f, t, s⟩ k; let R := (0 : Int) :: st; let u := byteAt s k = 117
    (f < t → crossOf st x = (if u then (atD 0 R (f + k + 1), atD 0 R (f + k)) else (atD 0 R (f + k), atD 0 R (f + k + 1))) ∧ (R.set (f + k).toNat (atD 0 R (f + k + 1))).set (f + k + 1).toNat (atD 0 R (f + k)) = 0 :: swapL st (absI x) ∧ f + k + 1 ≤ n) ∧
    (t < f → crossOf st x = (if u then (atD 0 R (f - k - 1), atD 0 R (f - k)) else (atD 0 R (f - k), atD 0 R (f - k - 1))) ∧ (R.set (f - k).toNat (atD 0 R (f - k - 1))).set (f - k - 1).toNat (atD 0 R (f - k)) = 0 :: swapL st (absI x) ∧ 1 ≤ f - k - 1 ∧ f - k ≤ n) := by
  obtain ⟨h1, h2, h3, h4, h5, h6, h7⟩ := passE_zero hp
  simp only at h1 h2 h3 h4 h5 h6 h7
  intro x R u
  refine ⟨fun hlt => ?_, fun hlt => ?_⟩
  · have hd : (s.size : Int) = t - f := by rw [h6]; unfold distP; simp only; rw [if_pos (by omega)]
    have hx : x = if byteAt s k = 117 then -(f + k) else f + k := by
      show letterAt ⟨f, t, s⟩ k = _
      unfold letterAt
      simp only [beq_iff_eq]
      rw [if_neg (by omega : ¬ t < f)]
    have ha : absI x = f + k := by rw [hx]; unfold absI; split <;> split <;> omega
    have eA : atD 0 R (f + k) = atD 0 st (f + k - 1) := cons_at (by omega)
    have eB : atD 0 R (f + k + 1) = atD 0 st (f + k) := by rw [show R = 0 :: st from rfl, cons_at (by omega)]; congr 1; omega
    refine ⟨?_, ?_, by omega⟩
    · unfold crossOf
      rw [ha, eA, eB, hx]
      show _ = if byteAt s k = 117 then _ else _
      split
      · rw [if_pos (by omega)]
      · rw [if_neg (by omega)]
    · rw [ha, eA, eB, show R = 0 :: st from rfl, cons_set (by omega), cons_set (by omega)]
      unfold swapL
      rw [show f + k + 1 - 1 = f + k by omega]
  · have hd : (s.size : Int) = f - t := by rw [h6]; unfold distP; simp only; rw [if_neg (by omega)]
    have hx : x = if byteAt s k = 117 then f - 1 - k else -(f - 1 - k) := by
      show letterAt ⟨f, t, s⟩ k = _
      unfold letterAt
      simp only [beq_iff_eq]
      rw [if_pos hlt]
      split <;> omega
    have ha : absI x = f - k - 1 := by rw [hx]; unfold absI; split <;> split <;> omega
    have eA : atD 0 R (f - k - 1) = atD 0 st (f - k - 1 - 1) := cons_at (by omega)
    have eB : atD 0 R (f - k) = atD 0 st (f - k - 1) := cons_at (by omega)
    refine ⟨?_, ?_, by omega, by omega⟩
    · unfold crossOf
      rw [ha, eA, eB, hx]
      show _ = if byteAt s k = 117 then _ else _
      split
      · rw [if_neg (by omega)]
      · rw [if_pos (by omega)]
    · rw [ha, eA, eB, show R = 0 :: st from rfl, List.set_comm _ _ (by omega : (f - k).toNat ≠ (f - k - 1).toNat), cons_set (by omega), cons_set (by omega)]
      unfold swapL
      rfl
end Go.Proofs.YtogbclcnmogaeaaGreatDoor
