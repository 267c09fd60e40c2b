/- Plain facts on the crossings of passes. Conditions: passes that are accepted. Plain facts on the passes of a word: they have this word, are accepted, and cannot be joined. Conditions: letters that are not 0. Plain facts on passes that lead back: accepted, and their word cancels letter by letter. Conditions: accepted passes. -/
import Derived.Test.YtogbclcnmogaeaaGreatDoorRG
import Derived.Test.YtogbclcnmogaeaaGreatDoorRPA
import Derived.Test.YtogbclcnmogaeaaGreatDoorRlB
import Derived.Test.YtogbclcnmogaeaaGreatDoorPs1
import Derived.Test.YtogbclcnmogaeaaGreatDoorRUA
set_option linter.all false
/- Plain facts on the crossings of passes. Conditions: passes that are accepted. -/
namespace Go.Proofs.YtogbclcnmogaeaaGreatDoor
open Go.RowKit
section
variable {P : Program} {ops : Array Oper} {w : World} {a : Act} {ty : TypeId} {p : String} {af : Array Edge} {g : Option (Nat × Bool)} {d : Tmp}
theorem yieldsK_agg {α : Type} {c : α → Value} {sz bytes : Nat} {t e : TypeId} {z : Value} {b o cap k : Nat} {l : List α} {s : Operand} {V : Value} (E : ETy P t e z sz bytes) (hF : Aggr P e) (hc : ∀ x, c x = .agg (c x).cells) (dd : α) (hR : Reps c sz w (some ⟨b, o, none⟩) cap l) (hk : k < l.length) (hV : c (atD dd l k) = V)
   (hg : Region.wanted (⟨some d, .load e s, ty, p, af, g⟩ : Oper) (yielded ops a.tmps) = true) (hs : a.eval s = .pointer (some ⟨b, o + k * sz, none⟩)) : YieldsK P ops (Below w.heap.size w) ⟨some d, .load e s, ty, p, af, g⟩ V a := by
  subst hV
  refine .inl ⟨hg, fun w' hw' => ?_⟩
  obtain ⟨b', o', e1, hcs⟩ := hR.cells E.pos dd k hk
  cases e1
  obtain ⟨i, hi, _, hsz, _⟩ := info_parts E.inf
  have h2 : (Instr.loadAt e (.pointer (some ⟨b, o + k * sz, none⟩))).run P w' = .ok (c (atD dd l k)) w' := by
    rw [run_loadAt_agg w' hF hi (cs := (c (atD dd l k)).cells.toList) (by rw [hsz]; simpa using (hR.1 _).symm) ?_]
    · rw [Array.toArray_toList, ← hc]
    · intro j v hv
      rw [Addr.add_z]
      have hcell := hcs j v hv
      exact (hw'.cell (World.block_lt_of_cell? w _ hcell)).trans hcell
  simp [execOp, hs, h2, Result.andThen]
theorem yieldsK_blk {e : TypeId} {s : Operand} {b n : Nat} {us : Array Value} {T : TypeId} {fr : Nat × Nat} (hF : Aggr P e) (hn : (P.info? e).map (·.size) = some n) (hb : w.heap[b]? = some (.cells us T fr)) (hz : us.size = n)
   (hg : Region.wanted (⟨some d, .load e s, ty, p, af, g⟩ : Oper) (yielded ops a.tmps) = true) (hs : a.eval s = .pointer (some ⟨b, 0, none⟩)) : YieldsK P ops (Below w.heap.size w) ⟨some d, .load e s, ty, p, af, g⟩ (.agg us) a := by
  rcases yieldsC_loadS (ops := ops) (ty := ty) (p := p) (af := af) (g := g) (d := d) (o := 0) (us := us) hF hn hb (by rw [List.drop_zero, List.take_of_length_le (by simp; omega)]) hz hs hg with h | h
  · exact .inl h
  · exact .inr (.inl h)
end

theorem rowGo_pre : ∀ (ws st : List Int) (cr : List (Int × Int)), ∃ v, (rowGo st cr ws).2 = cr ++ v
  | [], st, cr => ⟨[], by simp [rowGo]⟩
  | x :: r, st, cr => by
    obtain ⟨v, hv⟩ := rowGo_pre r (swapL st (absI x)) (cr ++ [crossOf st x])
    exact ⟨[crossOf st x] ++ v, by rw [rowGo, hv, List.append_assoc]⟩
theorem cross_at {st : List Int} {cr : List (Int × Int)} {x : Int} {ws : List Int} {C : List (Int × Int)} (h : (rowGo st cr (x :: ws)).2 = C) : atD (0, 0) C cr.length = crossOf st x ∧ cr.length < C.length := by
  rw [rowGo] at h
  obtain ⟨v, hv⟩ := rowGo_pre ws (swapL st (absI x)) (cr ++ [crossOf st x])
  rw [h] at hv
  subst hv
  constructor
  · unfold atD
    rw [Int.toNat_natCast, List.getD_eq_getElem?_getD, List.append_assoc, List.getElem?_append_right (Nat.le_refl _)]
    simp
  · simp
theorem lettersL_drop (p : PassV) (k : Nat) (h : k < p.way.size) : (lettersL p).drop k = letterAt p k :: (lettersL p).drop (k + 1) := by
  have h2 : k < (lettersL p).length := by rw [lettersL_len]; exact h
  rw [List.drop_eq_getElem_cons h2]
  congr 1
  simp [lettersL, lettersK]
theorem lettersAll_drop (l : List PassV) (k : Nat) (h : k < l.length) : lettersAll (l.drop k) = lettersL (atD pass0 l k) ++ lettersAll (l.drop (k + 1)) := by
  rw [List.drop_eq_getElem_cons h]
  unfold lettersAll
  rw [List.flatMap_cons]
  simp [atD, h]
/-- the word of accepted passes is a word. -/
theorem lettersAll_word {n : Int} {l : List PassV} (h : passesE n l = 0) (hl : l.length ≤ 10) : wordE n (lettersAll l) = 0 ∧ (lettersAll l).length ≤ 110 := by
  obtain ⟨h1, h2, _, hall⟩ := passesE_zero h
  have hlen : (lettersAll l).length ≤ 11 * l.length := by
    clear h hl
    induction l with
    | nil => simp [lettersAll]
    | cons p r ih =>
      have q1 := (passE_small h2 (hall p (by simp))).2.2.1
      have q2 := ih (by simp_all; omega) (fun q hq => hall q (by simp [hq]))
      unfold lettersAll at q2 ⊢
      rw [List.flatMap_cons, List.length_append, lettersL_len, List.length_cons]
      omega
  refine ⟨?_, by omega⟩
  have hs0 : strandsE n = 0 := by unfold strandsE; rw [if_neg (by omega)]
  rw [wordE_any hs0 (by omega), if_neg]
  intro ha
  obtain ⟨x, hx, ho⟩ := List.any_eq_true.1 ha
  obtain ⟨p, hp, hx⟩ := List.mem_flatMap.1 hx
  obtain ⟨_, _, f1, f2⟩ := letter_fits h2 (hall p hp) x hx
  unfold absI at f1 f2
  simp only [outB, Bool.or_eq_true, beq_iff_eq, decide_eq_true_eq] at ho
  split at f1 <;> omega
/-- the side of a strand, told as 1 or 2. -/
def sdOf (s : Int) (p : Int × Int) : Int := if p.1 = s then 1 else if p.2 = s then 2 else 0
def scanGo (s : Int) : Int → Bool → List (Int × Int) → Bool
  | _, fl, [] => fl
  | last, fl, p :: r => scanGo s (if 0 < sdOf s p then sdOf s p else last) (fl || (decide (0 < sdOf s p) && decide (sdOf s p = last))) r
def encS (la : Int) : Int := if la = 1 then 1 else if la = -1 then 2 else 0
theorem scan_fail {n : Int} : ∀ (C : List (Int × Int)) (s la : Int) (fl : Bool), pairsOk n C → (la = 0 ∨ la = 1 ∨ la = -1) → scanGo s (encS la) fl C = (fl || failGo s la C)
  | [], s, la, fl, _, _ => by simp [scanGo, failGo]
  | p :: r, s, la, fl, hp, hl => by
    have hq := hp p (by simp)
    have hr : pairsOk n r := fun q hq => hp q (by simp [hq])
    rw [scanGo, failGo]
    by_cases h1 : p.1 = s
    · have e1 : sdOf s p = 1 := by unfold sdOf; rw [if_pos h1]
      have e2 : sideOf s p = 1 := by unfold sideOf; rw [if_neg (by omega), if_pos h1]
      have e3 : (if (0 : Int) < 1 then (1 : Int) else encS la) = encS 1 := rfl
      rw [e1, e2, e3, scan_fail r s 1 _ hr (.inr (.inl rfl))]
      rcases hl with rfl | rfl | rfl <;> simp [encS]
    · by_cases h2 : p.2 = s
      · have e1 : sdOf s p = 2 := by unfold sdOf; rw [if_neg h1, if_pos h2]
        have e2 : sideOf s p = -1 := by unfold sideOf; rw [if_pos h2]
        have e3 : (if (0 : Int) < 2 then (2 : Int) else encS la) = encS (-1) := rfl
        rw [e1, e2, e3, scan_fail r s (-1) _ hr (.inr (.inr rfl))]
        rcases hl with rfl | rfl | rfl <;> simp [encS]
      · have e1 : sdOf s p = 0 := by unfold sdOf; rw [if_neg h1, if_neg h2]
        have e2 : sideOf s p = 0 := by unfold sideOf; rw [if_neg h2, if_neg h1]
        rw [e1, e2, if_neg (by omega), if_neg (fun h => h.1 rfl), if_neg (fun h => h rfl)]
        rw [scan_fail r s la _ hr hl]
        simp
theorem scan_step {s last : Int} {fl : Bool} {C : List (Int × Int)} {k : Nat} (h : k < C.length) : scanGo s last fl (C.drop k) = scanGo s (if 0 < sdOf s (atD (0, 0) C k) then sdOf s (atD (0, 0) C k) else last) (fl || (decide (0 < sdOf s (atD (0, 0) C k)) && decide (sdOf s (atD (0, 0) C k) = last))) (C.drop (k + 1)) := by
  have e : atD (0, 0) C k = C[k] := by simp [atD, h]
  rw [List.drop_eq_getElem_cons h, scanGo, e]
/-- a step along a pass: the crossing that is told, the row, and where the strand is then. -/
theorem pass_step {n f t : Int} {s : ByteArray} {st : List Int} {k : Nat} (hn : n ≤ 12) (hp : passE n ⟨f, t, s⟩ = 0) (hk : k < s.size) (hst : (st.length : Int) = n) :
    let x := letterAt ⟨f, t, s⟩ k; let R := (0 : Int) :: st; let u := byteAt s k = 117
    (f < t → crossOf st x = (if u then (atD 0 R (f + k + 1), atD 0 R (f + k)) else (atD 0 R (f + k), atD 0 R (f + k + 1))) ∧ (R.set (f + k).toNat (atD 0 R (f + k + 1))).set (f + k + 1).toNat (atD 0 R (f + k)) = 0 :: swapL st (absI x) ∧ f + k + 1 ≤ n) ∧
    (t < f → crossOf st x = (if u then (atD 0 R (f - k - 1), atD 0 R (f - k)) else (atD 0 R (f - k), atD 0 R (f - k - 1))) ∧ (R.set (f - k).toNat (atD 0 R (f - k - 1))).set (f - k - 1).toNat (atD 0 R (f - k)) = 0 :: swapL st (absI x) ∧ 1 ≤ f - k - 1 ∧ f - k ≤ n) := by
  obtain ⟨h1, h2, h3, h4, h5, h6, h7⟩ := passE_zero hp
  simp only at h1 h2 h3 h4 h5 h6 h7
  intro x R u
  refine ⟨fun hlt => ?_, fun hlt => ?_⟩
  · have hd : (s.size : Int) = t - f := by rw [h6]; unfold distP; simp only; rw [if_pos (by omega)]
    have hx : x = if byteAt s k = 117 then -(f + k) else f + k := by
      show letterAt ⟨f, t, s⟩ k = _
      unfold letterAt
      simp only [beq_iff_eq]
      rw [if_neg (by omega : ¬ t < f)]
    have ha : absI x = f + k := by rw [hx]; unfold absI; split <;> split <;> omega
    have eA : atD 0 R (f + k) = atD 0 st (f + k - 1) := cons_at (by omega)
    have eB : atD 0 R (f + k + 1) = atD 0 st (f + k) := by rw [show R = 0 :: st from rfl, cons_at (by omega)]; congr 1; omega
    refine ⟨?_, ?_, by omega⟩
    · unfold crossOf
      rw [ha, eA, eB, hx]
      show _ = if byteAt s k = 117 then _ else _
      split
      · rw [if_pos (by omega)]
      · rw [if_neg (by omega)]
    · rw [ha, eA, eB, show R = 0 :: st from rfl, cons_set (by omega), cons_set (by omega)]
      unfold swapL
      rw [show f + k + 1 - 1 = f + k by omega]
  · have hd : (s.size : Int) = f - t := by rw [h6]; unfold distP; simp only; rw [if_neg (by omega)]
    have hx : x = if byteAt s k = 117 then f - 1 - k else -(f - 1 - k) := by
      show letterAt ⟨f, t, s⟩ k = _
      unfold letterAt
      simp only [beq_iff_eq]
      rw [if_pos hlt]
      split <;> omega
    have ha : absI x = f - k - 1 := by rw [hx]; unfold absI; split <;> split <;> omega
    have eA : atD 0 R (f - k - 1) = atD 0 st (f - k - 1 - 1) := cons_at (by omega)
    have eB : atD 0 R (f - k) = atD 0 st (f - k - 1) := cons_at (by omega)
    refine ⟨?_, ?_, by omega, by omega⟩
    · unfold crossOf
      rw [ha, eA, eB, hx]
      show _ = if byteAt s k = 117 then _ else _
      split
      · rw [if_neg (by omega)]
      · rw [if_pos (by omega)]
    · rw [ha, eA, eB, show R = 0 :: st from rfl, List.set_comm _ _ (by omega : (f - k).toNat ≠ (f - k - 1).toNat), cons_set (by omega), cons_set (by omega)]
      unfold swapL
      rfl
end Go.Proofs.YtogbclcnmogaeaaGreatDoor

/- Plain facts on the passes of a word: they have this word, are accepted, and cannot be joined. Conditions: letters that are not 0. -/
namespace Go.Proofs.YtogbclcnmogaeaaGreatDoor

theorem runGo_spec (l : List Int) (b : Int) : ∀ (f k : Nat), (∀ j : Nat, j < k → absI (atD 0 l j) = absI (atD 0 l 0) + b * j) → ∀ j : Nat, j < runGo l b k f → absI (atD 0 l j) = absI (atD 0 l 0) + b * j
  | 0, k, h, j, hj => h j hj
  | f + 1, k, h, j, hj => by
    rw [runGo] at hj
    split at hj
    · next hc =>
      refine runGo_spec l b f (k + 1) (fun i hi => ?_) j hj
      rcases Nat.lt_succ_iff_lt_or_eq.1 hi with h1 | h1
      · exact h i h1
      · rw [h1]; exact hc.2
    · exact h j hj
theorem runN_spec (l : List Int) (b : Int) {j : Nat} (hj : j < runN l b) : absI (atD 0 l j) = absI (atD 0 l 0) + b * j := by
  refine runGo_spec l b l.length 1 (fun i hi => ?_) j hj
  have : i = 0 := by omega
  subst this
  simp
theorem runGo_stop (l : List Int) (b : Int) : ∀ (f k : Nat), l.length ≤ k + f → runGo l b k f < l.length → absI (atD 0 l (runGo l b k f : Nat)) ≠ absI (atD 0 l 0) + b * (runGo l b k f : Nat)
  | 0, k, h, hj => by rw [runGo] at hj; omega
  | f + 1, k, h, hj => by
    rw [runGo] at hj ⊢
    split
    · next hc =>
      rw [if_pos hc] at hj
      exact runGo_stop l b f (k + 1) (by omega) hj
    · next hc =>
      rw [if_neg hc] at hj
      exact fun e => hc ⟨hj, e⟩
theorem runN_stop (l : List Int) (b : Int) (h : runN l b < l.length) : absI (atD 0 l (runN l b : Nat)) ≠ absI (atD 0 l 0) + b * (runN l b : Nat) := runGo_stop l b l.length 1 (by omega) h
theorem byteAt_way (F T : Int) (ls : List Int) {k : Nat} (h : k < ls.length) : byteAt (wayL F T ls) k = if sideB F T (atD 0 ls k) then 111 else 117 := by
  have h2 : k < (wayL F T ls).size := by rw [wayL_size]; exact h
  have e : atD 0 ls k = ls[k] := by simp [atD, h]
  rw [byteAt_in h2, e]
  have : (wayL F T ls)[k]'h2 = if sideB F T ls[k] then (111 : UInt8) else 117 := by
    rw [ByteArray.getElem_eq_getElem_data]
    simp [wayL]
  rw [this]
  split <;> rfl
theorem passOf_letters {r : List Int} (h0 : 0 < r.length) (hnz : ∀ x ∈ r, x ≠ 0) : lettersL (passOf r) = r.take (passCount r) := by
  have hc1 := passCount_pos (r := r)
  have hcl := passCount_le h0
  have hsz : (passOf r).way.size = passCount r := by
    show (wayL _ _ (r.take (passCount r))).size = _
    rw [wayL_size]; simp; omega
  refine List.ext_getElem (by rw [lettersL_len, hsz]; simp; omega) fun k hk1 hk2 => ?_
  have hk : k < passCount r := by rw [lettersL_len, hsz] at hk1; exact hk1
  have hkr : k < r.length := by omega
  have e1 : (lettersL (passOf r))[k] = letterAt (passOf r) k := by simp [lettersL, lettersK]
  have e2 : (r.take (passCount r))[k] = r[k] := by simp
  have e3 : atD 0 r k = r[k] := by simp [atD, hkr]
  rw [e1, e2]
  have hnk := hnz r[k] (List.getElem_mem hkr)
  have hb : byteAt (passOf r).way k = if sideB (passF r) (passT r) r[k] then 111 else 117 := by
    have := byteAt_way (passF r) (passT r) (r.take (passCount r)) (k := k) (by simp; omega)
    rw [atD_take hk, e3] at this
    exact this
  unfold letterAt
  rw [hb]
  show (if (if sideB (passF r) (passT r) r[k] = true then (111 : Int) else 117) == 117 then -(if passT r < passF r then (k : Int) + 1 - passF r else passF r + k) else (if passT r < passF r then (k : Int) + 1 - passF r else passF r + k)) = r[k]
  by_cases hud : runN r 1 < runN r (-1)
  · have hcd : passCount r = runN r (-1) := by unfold passCount; omega
    have hF : passF r = absI (atD 0 r 0) + 1 := by unfold passF; rw [if_pos hud]
    have hT : passT r = absI (atD 0 r 0) + 1 - passCount r := by unfold passT; rw [if_pos hud]
    have hr := runN_spec r (-1) (j := k) (by omega)
    rw [e3] at hr
    have hbase : (if passT r < passF r then (k : Int) + 1 - passF r else passF r + k) = (k : Int) + 1 - passF r := if_pos (by omega)
    rw [hbase]
    have hs : sideB (passF r) (passT r) r[k] = decide (r[k] < 0) := by
      unfold sideB
      rw [show decide (passF r < passT r) = false by simp; omega]
      by_cases hp : 0 < r[k]
      · have : ¬ r[k] < 0 := by omega
        simp [hp, this]
      · have : r[k] < 0 := by omega
        simp [hp, this]
    rw [hs]
    unfold absI at hr
    by_cases hp : r[k] < 0
    · simp only [hp, decide_true, if_true]
      rw [if_neg (by decide)]
      rw [if_neg (by omega)] at hr
      unfold absI at hF
      omega
    · simp only [hp, decide_false, Bool.false_eq_true, if_false]
      rw [if_pos (by decide)]
      rw [if_pos (by omega)] at hr
      unfold absI at hF
      omega
  · have hcd : passCount r = runN r 1 := by unfold passCount; omega
    have hF : passF r = absI (atD 0 r 0) := by unfold passF; rw [if_neg hud]
    have hT : passT r = absI (atD 0 r 0) + passCount r := by unfold passT; rw [if_neg hud]
    have hr := runN_spec r 1 (j := k) (by omega)
    rw [e3] at hr
    have hbase : (if passT r < passF r then (k : Int) + 1 - passF r else passF r + k) = passF r + k := if_neg (by omega)
    rw [hbase]
    have hs : sideB (passF r) (passT r) r[k] = decide (0 < r[k]) := by
      unfold sideB
      rw [show decide (passF r < passT r) = true by simp; omega]
      by_cases hp : 0 < r[k] <;> simp [hp]
    rw [hs]
    unfold absI at hr
    by_cases hp : 0 < r[k]
    · simp only [hp, decide_true, if_true]
      rw [if_neg (by decide)]
      rw [if_pos (by omega)] at hr
      unfold absI at hF
      omega
    · simp only [hp, decide_false, Bool.false_eq_true, if_false]
      rw [if_pos (by decide)]
      rw [if_neg (by omega)] at hr
      unfold absI at hF
      omega
theorem passesOf_word : ∀ (f : Nat) (r : List Int), r.length ≤ f → (∀ x ∈ r, x ≠ 0) → lettersAll (passesOf f r) = r
  | 0, r, h, _ => by
    have : r = [] := List.eq_nil_of_length_eq_zero (by omega)
    subst this; simp [passesOf, lettersAll]
  | f + 1, r, h, hnz => by
    rcases Nat.eq_zero_or_pos r.length with h0 | h0
    · have : r = [] := List.eq_nil_of_length_eq_zero h0
      subst this; simp [passesOf, lettersAll]
    · have hc1 := passCount_pos (r := r)
      rw [passesOf_step h0]
      have ih := passesOf_word f (r.drop (passCount r)) (by simp; omega) (fun x hx => hnz x (List.mem_of_mem_drop hx))
      unfold lettersAll at ih ⊢
      rw [List.flatMap_cons, ih, passOf_letters h0 hnz, List.take_append_drop]
theorem passOf_ends {r : List Int} (h0 : 0 < r.length) : (runN r 1 < runN r (-1) ∧ passCount r = runN r (-1) ∧ passF r = absI (atD 0 r 0) + 1 ∧ passT r = absI (atD 0 r 0) + 1 - passCount r ∧ absI (atD 0 r (passCount r - 1 : Nat)) = absI (atD 0 r 0) - (passCount r - 1)) ∨
    (¬ runN r 1 < runN r (-1) ∧ passCount r = runN r 1 ∧ passF r = absI (atD 0 r 0) ∧ passT r = absI (atD 0 r 0) + passCount r ∧ absI (atD 0 r (passCount r - 1 : Nat)) = absI (atD 0 r 0) + (passCount r - 1)) := by
  have hc1 := passCount_pos (r := r)
  by_cases hud : runN r 1 < runN r (-1)
  · left
    have hcd : passCount r = runN r (-1) := by unfold passCount; omega
    refine ⟨hud, hcd, by unfold passF; rw [if_pos hud], by unfold passT; rw [if_pos hud], ?_⟩
    have := runN_spec r (-1) (j := passCount r - 1) (by omega)
    rw [this]; omega
  · right
    have hcd : passCount r = runN r 1 := by unfold passCount; omega
    refine ⟨hud, hcd, by unfold passF; rw [if_neg hud], by unfold passT; rw [if_neg hud], ?_⟩
    have := runN_spec r 1 (j := passCount r - 1) (by omega)
    rw [this]; omega
theorem passOf_ok {n : Int} {r : List Int} (h0 : 0 < r.length) (hf : ∀ x ∈ r, 1 ≤ absI x ∧ absI x < n) : passE n (passOf r) = 0 := by
  have hc1 := passCount_pos (r := r)
  have hcl := passCount_le h0
  have f0 := hf (atD 0 r 0) (by simp [atD, h0])
  have f1 := hf (atD 0 r (passCount r - 1 : Nat)) (by
    have : passCount r - 1 < r.length := by omega
    simp [atD, this])
  have hsz : (passOf r).way.size = passCount r := by
    show (wayL _ _ (r.take (passCount r))).size = _
    rw [wayL_size]; simp; omega
  have hF : (passOf r).f = passF r := rfl
  have hT : (passOf r).t = passT r := rfl
  have htr : trimOU (passOf r).way = ⟨#[]⟩ := trimOU_all fun k hk => by
    have hk2 : k < (r.take (passCount r)).length := by rw [hsz] at hk; simp; omega
    have := byteAt_way (passF r) (passT r) (r.take (passCount r)) hk2
    show byteAt (wayL (passF r) (passT r) (r.take (passCount r))) k = 111 ∨ byteAt (wayL (passF r) (passT r) (r.take (passCount r))) k = 117
    rw [this]
    split
    · exact .inl rfl
    · exact .inr rfl
  unfold passE
  rw [hF, hT, htr, hsz]
  unfold distP
  rw [hF, hT]
  rcases passOf_ends h0 with ⟨_, _, e1, e2, e3⟩ | ⟨_, _, e1, e2, e3⟩
  · rw [if_neg (by omega), if_neg (by omega), if_neg (by rw [if_neg (by omega)]; omega), if_neg (fun h => h rfl)]
  · rw [if_neg (by omega), if_neg (by omega), if_neg (by rw [if_pos (by omega)]; omega), if_neg (fun h => h rfl)]
theorem passesOf_ok {n : Int} : ∀ (f : Nat) (r : List Int), (∀ x ∈ r, 1 ≤ absI x ∧ absI x < n) → ∀ p ∈ passesOf f r, passE n p = 0
  | 0, r, _, p, hp => by simp [passesOf] at hp
  | f + 1, r, hf, p, hp => by
    rcases Nat.eq_zero_or_pos r.length with h0 | h0
    · have : r = [] := List.eq_nil_of_length_eq_zero h0
      subst this; simp [passesOf] at hp
    · rw [passesOf_step h0] at hp
      rcases List.mem_cons.1 hp with h | h
      · rw [h]; exact passOf_ok h0 hf
      · exact passesOf_ok f _ (fun x hx => hf x (List.mem_of_mem_drop hx)) p h
/-- what follows a pass could not go on with it. -/
theorem passOf_max {r : List Int} (h0 : 0 < r.length) (h : passCount r < r.length) : (passF r < passT r → absI (atD 0 r (passCount r : Nat)) ≠ passT r) ∧ (passT r < passF r → absI (atD 0 r (passCount r : Nat)) ≠ passT r - 1) := by
  have hc1 := passCount_pos (r := r)
  rcases passOf_ends h0 with ⟨_, e0, e1, e2, _⟩ | ⟨_, e0, e1, e2, _⟩
  · refine ⟨fun hh => by omega, fun _ => ?_⟩
    have := runN_stop r (-1) (by omega)
    rw [← e0] at this
    omega
  · refine ⟨fun _ => ?_, fun hh => by omega⟩
    have := runN_stop r 1 (by omega)
    rw [← e0] at this
    omega
end Go.Proofs.YtogbclcnmogaeaaGreatDoor

/- Plain facts on passes that lead back: accepted, and their word cancels letter by letter. Conditions: accepted passes. -/
namespace Go.Proofs.YtogbclcnmogaeaaGreatDoor

theorem revS_size (s : ByteArray) : (revS s).size = s.size := by
  rw [← revK_all, revK_size s s.size (Nat.le_refl _)]
theorem byteAt_rev {s : ByteArray} {k : Nat} (h : k < s.size) : byteAt (revS s) k = byteAt s (s.size - 1 - k) := by
  have h2 : k < (revS s).size := by rw [revS_size]; exact h
  have h3 : s.size - 1 - k < s.size := by omega
  rw [byteAt_in h2, byteAt_in h3]
  congr 2
  rw [ByteArray.getElem_eq_getElem_data, ByteArray.getElem_eq_getElem_data]
  have e : ∀ (l : List UInt8) (i : Nat) (hi : i < l.reverse.toArray.size) (h2 : l.length - 1 - i < l.length), l.reverse.toArray[i]'hi = l[l.length - 1 - i]'h2 := fun l i hi h2 => by
    rw [List.getElem_toArray, List.getElem_reverse]
  exact e s.data.toList k h2 h3
theorem backP_ok {n : Int} {p : PassV} (h : passE n p = 0) : passE n (backP p) = 0 := by
  obtain ⟨h1, h2, h3, h4, h5, h6, h7⟩ := passE_zero h
  have htr : trimOU (backP p).way = ⟨#[]⟩ := trimOU_all fun k hk => by
    have hk2 : k < p.way.size := by have : k < (revS p.way).size := hk; rwa [revS_size] at this
    show byteAt (revS p.way) k = 111 ∨ byteAt (revS p.way) k = 117
    rw [byteAt_rev hk2]
    exact h7 _ (by omega)
  have hs : (backP p).way.size = p.way.size := revS_size _
  have hF : (backP p).f = p.t := rfl
  have hT : (backP p).t = p.f := rfl
  unfold passE
  rw [htr, hs]
  have hd : (p.way.size : Int) = distP (backP p) := by
    rw [h6]
    unfold distP
    rw [hF, hT]
    split <;> split <;> omega
  rw [hF, hT]
  rw [if_neg (by omega), if_neg (by omega), if_neg (fun hh => hh hd), if_neg (fun hh => hh rfl)]
theorem backP_letters {n : Int} {p : PassV} (h : passE n p = 0) : lettersL (backP p) = (lettersL p).reverse.map (fun x => -x) := by
  obtain ⟨h1, h2, h3, h4, h5, h6, h7⟩ := passE_zero h
  have hs : (backP p).way.size = p.way.size := revS_size _
  refine List.ext_getElem (by simp [lettersL_len, hs]) fun k hk1 hk2 => ?_
  have hk : k < p.way.size := by rw [lettersL_len, hs] at hk1; exact hk1
  have e1 : (lettersL (backP p))[k] = letterAt (backP p) k := by simp [lettersL, lettersK]
  rw [e1]
  simp only [List.getElem_map, List.getElem_reverse]
  have e2 : (lettersL p)[(lettersL p).length - 1 - k]'(by simp [lettersL_len]; omega) = letterAt p (p.way.size - 1 - k) := by simp [lettersL, lettersK]
  rw [e2]
  unfold letterAt
  rw [show byteAt (backP p).way k = byteAt p.way (p.way.size - 1 - k) from byteAt_rev hk, show (backP p).f = p.t from rfl, show (backP p).t = p.f from rfl]
  have hc : ((p.way.size - 1 - k : Nat) : Int) = (p.way.size : Int) - 1 - k := by omega
  rw [hc, h6]
  unfold distP
  by_cases hlt : p.t < p.f
  · have a1 : (if p.f < p.t then (k : Int) + 1 - p.t else p.t + k) = p.t + k := if_neg (by omega)
    have a2 : (if p.f ≤ p.t then p.t - p.f else p.f - p.t) = p.f - p.t := if_neg (by omega)
    rw [a1, a2, if_pos hlt]
    split <;> omega
  · have a1 : (if p.f < p.t then (k : Int) + 1 - p.t else p.t + k) = (k : Int) + 1 - p.t := if_pos (by omega)
    have a2 : (if p.f ≤ p.t then p.t - p.f else p.f - p.t) = p.t - p.f := if_pos (by omega)
    rw [a1, a2, if_neg hlt]
    split <;> omega
theorem backL_ok {n : Int} {l : List PassV} (h : ∀ p ∈ l, passE n p = 0) : ∀ p ∈ backL l, passE n p = 0 := by
  intro p hp
  obtain ⟨q, hq, rfl⟩ := List.mem_map.1 hp
  exact backP_ok (h q (List.mem_reverse.1 hq))
theorem backL_word {n : Int} : ∀ {l : List PassV}, (∀ p ∈ l, passE n p = 0) → lettersAll (backL l) = (lettersAll l).reverse.map (fun x => -x)
  | [], _ => rfl
  | p :: r, h => by
    have ih := backL_word (l := r) (fun q hq => h q (by simp [hq]))
    unfold lettersAll backL at ih ⊢
    rw [List.reverse_cons, List.map_append, List.flatMap_append, ih, List.flatMap_cons, List.reverse_append, List.map_append]
    simp only [List.map_cons, List.map_nil, List.flatMap_cons, List.flatMap_nil, List.append_nil]
    rw [backP_letters (h p (by simp))]
/-- letter by letter. -/
theorem backL_at_neg {n : Int} {l : List PassV} (h : ∀ p ∈ l, passE n p = 0) {i : Nat} (hi : i < (lettersAll l).length) : atD 0 (lettersAll (backL l)) (((lettersAll l).length - 1 - i : Nat) : Int) = -atD 0 (lettersAll l) i := by
  rw [backL_word h]
  have h2 : (lettersAll l).length - 1 - i < (lettersAll l).length := by omega
  unfold atD
  simp only [Int.toNat_natCast]
  rw [List.getD_eq_getElem?_getD, List.getElem?_map, List.getElem?_reverse h2, List.getD_eq_getElem?_getD]
  rw [show (lettersAll l).length - 1 - ((lettersAll l).length - 1 - i) = i by omega, List.getElem?_eq_getElem hi]
  rfl
theorem passesGo_ok {n : Int} : ∀ {l : List PassV}, (∀ p ∈ l, passE n p = 0) → passesGo n l = 0
  | [], _ => rfl
  | p :: r, h => by
    rw [passesGo, if_neg (fun hh => hh (h p (by simp)))]
    exact passesGo_ok fun q hq => h q (by simp [hq])
theorem passesE_ok {n : Int} {l : List PassV} (h2 : 2 ≤ n) (h12 : n ≤ 12) (hl : l.length ≤ 1000) (h : ∀ p ∈ l, passE n p = 0) : passesE n l = 0 := by
  unfold passesE
  rw [if_neg (by omega), if_neg (by omega)]
  exact passesGo_ok h
theorem passesOf_size : ∀ (f : Nat) (r : List Int), (passesOf f r).length ≤ f
  | 0, r => by simp [passesOf]
  | f + 1, r => by
    rcases Nat.eq_zero_or_pos r.length with h | h
    · have : r = [] := List.eq_nil_of_length_eq_zero h
      subst this; simp [passesOf]
    · rw [passesOf_step h]
      have := passesOf_size f (r.drop (passCount r))
      simp only [List.length_cons]; omega
/-- no two passes, one after the other, could be one. -/
theorem passesOf_next : ∀ (f : Nat) (r : List Int), r.length ≤ f → (∀ x ∈ r, x ≠ 0) → ∀ i : Nat, i + 1 < (passesOf f r).length →
    ((atD pass0 (passesOf f r) i).f < (atD pass0 (passesOf f r) i).t → absI (letterAt (atD pass0 (passesOf f r) (i + 1 : Nat)) 0) ≠ (atD pass0 (passesOf f r) i).t) ∧
    ((atD pass0 (passesOf f r) i).t < (atD pass0 (passesOf f r) i).f → absI (letterAt (atD pass0 (passesOf f r) (i + 1 : Nat)) 0) ≠ (atD pass0 (passesOf f r) i).t - 1)
  | 0, r, _, _, i, hi => by simp [passesOf] at hi
  | f + 1, r, hf, hnz, i, hi => by
    rcases Nat.eq_zero_or_pos r.length with h | h
    · have : r = [] := List.eq_nil_of_length_eq_zero h
      subst this; simp [passesOf] at hi
    · have hc1 := passCount_pos (r := r)
      rw [passesOf_step h] at hi ⊢
      have hnz2 : ∀ x ∈ r.drop (passCount r), x ≠ 0 := fun x hx => hnz x (List.mem_of_mem_drop hx)
      have e1 : atD pass0 (passOf r :: passesOf f (r.drop (passCount r))) (i + 1 : Nat) = atD pass0 (passesOf f (r.drop (passCount r))) i := rfl
      rw [e1]
      rcases Nat.eq_zero_or_pos i with h0 | h0
      · subst h0
        have e0 : atD pass0 (passOf r :: passesOf f (r.drop (passCount r))) (0 : Nat) = passOf r := rfl
        rw [e0]
        have hr : passCount r < r.length := by
          rcases Nat.lt_or_ge (passCount r) r.length with h | h
          · exact h
          · rw [List.drop_of_length_le h] at hi
            cases f <;> simp [passesOf] at hi
        have hd : 0 < (r.drop (passCount r)).length := by simp; omega
        obtain ⟨g, rfl⟩ : ∃ g, f = g + 1 := ⟨f - 1, by omega⟩
        rw [passesOf_step hd]
        have e2 : atD pass0 (passOf (r.drop (passCount r)) :: passesOf g ((r.drop (passCount r)).drop (passCount (r.drop (passCount r))))) (0 : Nat) = passOf (r.drop (passCount r)) := rfl
        rw [e2]
        have hl := passOf_letters hd hnz2
        have hc2 := passCount_pos (r := r.drop (passCount r))
        have hz : 0 < (passOf (r.drop (passCount r))).way.size := by
          have := congrArg List.length hl
          rw [lettersL_len] at this
          simp at this; omega
        have e3 : letterAt (passOf (r.drop (passCount r))) 0 = atD 0 r (passCount r : Nat) := by
          have h1 : atD 0 (lettersL (passOf (r.drop (passCount r)))) (0 : Nat) = letterAt (passOf (r.drop (passCount r))) 0 := by
            simp [atD, lettersL, lettersK, hz]
          rw [← h1, hl, atD_take hc2]
          unfold atD
          rw [List.getD_eq_getElem?_getD, List.getD_eq_getElem?_getD, List.getElem?_drop]
          simp
        rw [e3]
        exact passOf_max h hr
      · obtain ⟨j, rfl⟩ : ∃ j, i = j + 1 := ⟨i - 1, by omega⟩
        have e2 : atD pass0 (passOf r :: passesOf f (r.drop (passCount r))) (j + 1 : Nat) = atD pass0 (passesOf f (r.drop (passCount r))) j := rfl
        rw [e2]
        exact passesOf_next f (r.drop (passCount r)) (by simp; omega) hnz2 j (by simpa using hi)
end Go.Proofs.YtogbclcnmogaeaaGreatDoor
