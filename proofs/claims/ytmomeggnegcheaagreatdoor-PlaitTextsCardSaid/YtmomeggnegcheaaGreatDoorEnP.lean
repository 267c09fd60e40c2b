/- Plain facts: rows of strands as permutations, inverses, and their periods. No condition. -/
import Derived.Test.YtmomeggnegcheaaGreatDoorRG
import Derived.Test.YtmomeggnegcheaaGreatDoorCiA
import Derived.Test.YtmomeggnegcheaaGreatDoorPrA
set_option linter.all false
namespace Go.Proofs.YtmomeggnegcheaaGreatDoor
open Go.RowKit
set_option maxHeartbeats 1000000
set_option maxRecDepth 100000

theorem permGo_ok (n : Nat) : ∀ (r seen : List Int), (∀ x ∈ r, 0 ≤ x ∧ x < n ∧ x ∉ seen) → r.Nodup → permGo n seen r = 0
  | [], _, _, _ => rfl
  | x :: r, seen, h, hn => by
    obtain ⟨h1, h2⟩ := List.nodup_cons.1 hn
    obtain ⟨a, b, c⟩ := h x (by simp)
    rw [permGo, if_neg (by rintro (d | d | d) <;> first | exact c d | omega)]
    refine permGo_ok n r _ (fun y hy => ?_) h2
    obtain ⟨d, e, f⟩ := h y (by simp [hy])
    refine ⟨d, e, fun g => ?_⟩
    rcases List.mem_append.1 g with g | g
    · exact f g
    · simp only [List.mem_singleton] at g
      subst g; exact h1 hy
theorem isP_mem {p : List Int} (hp : IsP p) : ∀ x ∈ p, 0 ≤ x ∧ x < p.length := by
  intro x hx
  obtain ⟨i, hi, rfl⟩ := List.mem_iff_getElem.1 hx
  have := hp.rng i (by omega) (by omega)
  simpa [atD, hi] using this
theorem isP_nodup {p : List Int} (hp : IsP p) : p.Nodup := by
  rw [List.Nodup, List.pairwise_iff_getElem]
  intro i j hi hj hij e
  have := hp.inj i j (by omega) (by omega) (by omega) (by omega) (by simpa [atD, hi, hj] using e)
  omega
theorem permE_ok {p : List Int} (hp : IsP p) (h : p.length ≤ 256) : permE p = 0 := by
  unfold permE
  rw [if_neg (by omega)]
  exact permGo_ok _ _ _ (fun x hx => ⟨(isP_mem hp x hx).1, (isP_mem hp x hx).2, by simp⟩) (isP_nodup hp)
theorem isP_surj {p : List Int} (hp : IsP p) {y : Int} (h0 : 0 ≤ y) (h1 : y < p.length) : ∃ i : Nat, i < p.length ∧ atD 0 p i = y := by
  obtain ⟨d, a, _, c⟩ := itP_back hp h0 h1
  obtain ⟨e, rfl⟩ : ∃ e, d = e + 1 := ⟨d - 1, by omega⟩
  have hr := itP_rng hp h0 h1 e
  exact ⟨(itP p y e).toNat, by omega, by rw [Int.toNat_of_nonneg hr.1]; exact c⟩

/-! rows of strands -/
def row5 : List Int → List Int → List Int
  | st, [] => st
  | st, x :: r => row5 (swapL st (absI x)) r
theorem row5_drop (st l : List Int) (j : Nat) (h : j < l.length) : row5 st (l.drop j) = row5 (swapL st (absI (atD 0 l j))) (l.drop (j + 1)) := by
  rw [List.drop_eq_getElem_cons h, row5]
  simp [atD, h]
theorem row5_len : ∀ (l st : List Int), (row5 st l).length = st.length
  | [], st => rfl
  | x :: r, st => by rw [row5, row5_len r, swapL_len]
theorem swapL_at {st : List Int} {k j : Int} (h1 : 1 ≤ k) (h2 : k < st.length) (hj : 0 ≤ j) : atD 0 (swapL st k) j = atD 0 st (sw (k - 1) k j) := by
  unfold swapL sw
  rw [atD_set (by omega) (by simp; omega) hj, atD_set (by omega) (by omega) hj]
  by_cases a : j = k
  · subst a; rw [if_pos rfl, if_neg (by omega), if_pos rfl]
  · rw [if_neg a, if_neg a]
    by_cases b : j = k - 1
    · rw [if_pos b, if_pos b]
    · rw [if_neg b, if_neg b]
theorem swapL_isP {st : List Int} {k : Int} (h1 : 1 ≤ k) (h2 : k < st.length) (h : IsP st) : IsP (swapL st k) := by
  refine ⟨fun x x0 x1 => ?_, fun x y x0 x1 y0 y1 e => ?_⟩
  · rw [swapL_len] at x1 ⊢
    rw [swapL_at h1 h2 x0]
    obtain ⟨a, b⟩ := sw_rng (f := k - 1) (t := k) (n := st.length) ⟨by omega, by omega⟩ ⟨by omega, h2⟩ ⟨x0, x1⟩
    exact h.rng _ a b
  · rw [swapL_len] at x1 y1
    rw [swapL_at h1 h2 x0, swapL_at h1 h2 y0] at e
    obtain ⟨a, b⟩ := sw_rng (f := k - 1) (t := k) (n := st.length) ⟨by omega, by omega⟩ ⟨by omega, h2⟩ ⟨x0, x1⟩
    obtain ⟨c, d⟩ := sw_rng (f := k - 1) (t := k) (n := st.length) ⟨by omega, by omega⟩ ⟨by omega, h2⟩ ⟨y0, y1⟩
    have := congrArg (sw (k - 1) k) (h.inj _ _ a b c d e)
    rwa [sw_sw, sw_sw] at this
theorem row5_isP : ∀ (l st : List Int), IsP st → (∀ x ∈ l, 1 ≤ absI x ∧ absI x < st.length) → IsP (row5 st l)
  | [], st, h, _ => h
  | x :: r, st, h, hf => by
    obtain ⟨a, b⟩ := hf x (by simp)
    rw [row5]
    exact row5_isP r _ (swapL_isP a b h) (fun y hy => by rw [swapL_len]; exact hf y (by simp [hy]))
theorem idL_at {n : Nat} {j : Int} (h0 : 0 ≤ j) (h1 : j < n) : atD 0 (idL n) j = j := by
  unfold idL atD
  rw [List.getD_eq_getElem?_getD, List.getElem?_map, List.getElem?_range (by omega)]
  simp; omega
theorem idL_isP (n : Nat) : IsP (idL n) := by
  refine ⟨fun x x0 x1 => ?_, fun x y x0 x1 y0 y1 e => ?_⟩
  · rw [idL_len] at x1 ⊢; rw [idL_at x0 x1]; exact ⟨x0, x1⟩
  · rw [idL_len] at x1 y1; rwa [idL_at x0 x1, idL_at y0 y1] at e
theorem rowGo_row5 : ∀ (ws st : List Int) (cr : List (Int × Int)), (rowGo st cr ws).1 = row5 st ws
  | [], _, _ => rfl
  | x :: r, st, cr => by rw [rowGo, rowGo_row5 r, row5]
theorem row5_less : ∀ (l st st' : List Int), st'.length = st.length → (∀ x ∈ l, 1 ≤ absI x ∧ absI x < st.length) → (∀ j : Int, 0 ≤ j → j < st.length → atD 0 st' j = atD 0 st j + 1) →
    ∀ j : Int, 0 ≤ j → j < st.length → atD 0 (row5 st' l) j = atD 0 (row5 st l) j + 1
  | [], _, _, _, _, h, j, j0, j1 => h j j0 j1
  | x :: r, st, st', hl, hf, h, j, j0, j1 => by
    obtain ⟨a, b⟩ := hf x (by simp)
    rw [row5, row5]
    refine row5_less r (swapL st (absI x)) (swapL st' (absI x)) (by rw [swapL_len, swapL_len, hl]) (fun y hy => by rw [swapL_len]; exact hf y (by simp [hy])) ?_ j j0 (by rw [swapL_len]; exact j1)
    intro i i0 i1
    rw [swapL_len] at i1
    obtain ⟨c, d⟩ := sw_rng (f := absI x - 1) (t := absI x) (n := st.length) ⟨by omega, by omega⟩ ⟨by omega, b⟩ ⟨i0, i1⟩
    rw [swapL_at a b i0, swapL_at a (by omega) i0, h _ c d]

/-! inverses -/
def invK (p : List Int) (k : Nat) : List Int := (List.range k).foldl (fun (o : List Int) (i : Nat) => o.set (atD 0 p i).toNat (i : Int)) (List.replicate p.length 0)
def invL (p : List Int) : List Int := invK p p.length
theorem invK_succ (p : List Int) (k : Nat) : invK p (k + 1) = (invK p k).set (atD 0 p k).toNat (k : Int) := by unfold invK; rw [List.range_succ, List.foldl_append]; rfl
theorem invK_len (p : List Int) : ∀ k, (invK p k).length = p.length
  | 0 => by simp [invK]
  | k + 1 => by rw [invK_succ, List.length_set, invK_len p k]
theorem invK_at {p : List Int} (hp : IsP p) : ∀ k, k ≤ p.length → ∀ i : Nat, i < k → atD 0 (invK p k) (atD 0 p i) = i
  | 0, _, i, h => by omega
  | k + 1, hk, i, h => by
    have hi := hp.rng i (by omega) (by omega)
    have hk1 := hp.rng k (by omega) (by omega)
    rw [invK_succ, atD_set hk1.1 (by rw [invK_len]; exact hk1.2) hi.1]
    by_cases e : i = k
    · subst e; rw [if_pos rfl]
    · rw [if_neg (fun e2 => e (by have := hp.inj i k (by omega) (by omega) (by omega) (by omega) e2; omega))]
      exact invK_at hp k (by omega) i (by omega)
theorem invL_len (p : List Int) : (invL p).length = p.length := invK_len p _
theorem invL_left {p : List Int} (hp : IsP p) {i : Int} (h0 : 0 ≤ i) (h1 : i < p.length) : atD 0 (invL p) (atD 0 p i) = i := by
  have := invK_at hp p.length (Nat.le_refl _) i.toNat (by omega)
  rwa [Int.toNat_of_nonneg h0] at this
theorem invL_right {p : List Int} (hp : IsP p) {y : Int} (h0 : 0 ≤ y) (h1 : y < p.length) : atD 0 p (atD 0 (invL p) y) = y := by
  obtain ⟨i, hi, rfl⟩ := isP_surj hp h0 h1
  rw [invL_left hp (by omega) (by omega)]
theorem invL_isP {p : List Int} (hp : IsP p) : IsP (invL p) := by
  refine ⟨fun y y0 y1 => ?_, fun x y x0 x1 y0 y1 e => ?_⟩
  · rw [invL_len] at y1 ⊢
    obtain ⟨i, hi, rfl⟩ := isP_surj hp y0 y1
    rw [invL_left hp (by omega) (by omega)]; omega
  · rw [invL_len] at x1 y1
    rw [← invL_right hp x0 x1, ← invL_right hp y0 y1, e]
theorem itP_succ' (p : List Int) (x : Int) (n : Nat) : itP p x (n + 1) = itP p (atD 0 p x) n := by rw [itP_add p x 1 n]; rfl
theorem itP_undo {p q : List Int} (hp : IsP p) (hq : ∀ i : Int, 0 ≤ i → i < p.length → atD 0 q (atD 0 p i) = i) {i : Int} (h0 : 0 ≤ i) (h1 : i < p.length) : ∀ n, itP q (itP p i n) n = i
  | 0 => rfl
  | n + 1 => by
    have hr := itP_rng hp h0 h1 n
    rw [itP_succ' q, itP, hq _ hr.1 hr.2, itP_undo hp hq h0 h1 n]
theorem period_inv {p : List Int} (hp : IsP p) : periodN (invL p) = periodN p := by
  have hi := invL_isP hp
  have key : ∀ n, periodN p ∣ n ↔ periodN (invL p) ∣ n := by
    intro n
    rw [← period_iff hp, ← period_iff hi, invL_len]
    constructor
    · intro h i i0 i1
      have := itP_undo hp (fun i a b => invL_left hp a b) i0 i1 n
      rwa [h i i0 i1] at this
    · intro h i i0 i1
      have := itP_undo hi (q := p) (fun i a b => invL_right hp a (by rw [invL_len] at b; exact b)) i0 (by rw [invL_len]; exact i1) n
      rwa [h i i0 i1] at this
  exact Nat.dvd_antisymm ((key _).1 (Nat.dvd_refl _)) ((key _).2 (Nat.dvd_refl _))

theorem period_pos {p : List Int} (hp : IsP p) : 0 < periodN p := perF_pos _ 1 (by decide) (fun n hn => by obtain ⟨l, hl, rfl⟩ := List.mem_map.1 hn; exact cycK_pos hp (Nat.le_refl _) l hl)
theorem period_small {p : List Int} (hp : IsP p) (h : p.length ≤ 64) : periodN p < 100000000 := by
  refine perF_small _ (fun n hn => ?_) (Nat.le_trans (cycK_sum hp (Nat.le_refl _)) h)
  obtain ⟨l, hl, rfl⟩ := List.mem_map.1 hn; exact cycK_pos hp (Nat.le_refl _) l hl

/-! marks on the way round a cycle -/
def markL (S : List Bool) (c : List Int) : List Bool := c.foldl (fun S x => S.set x.toNat true) S
theorem markL_snoc (S : List Bool) (c : List Int) (x : Int) : markL S (c ++ [x]) = (markL S c).set x.toNat true := by simp [markL]
theorem markL_len (S : List Bool) : ∀ c : List Int, (markL S c).length = S.length := by
  intro c
  unfold markL
  induction c generalizing S with
  | nil => rfl
  | cons x r ih => rw [List.foldl_cons, ih]; simp
theorem atB_set {l : List Bool} {i j : Int} {x : Bool} (h0 : 0 ≤ i) (h1 : i < l.length) (hj : 0 ≤ j) : atD false (l.set i.toNat x) j = if j = i then x else atD false l j := by
  unfold atD
  rw [List.getD_eq_getElem?_getD, List.getElem?_set]
  by_cases h : j = i
  · subst h; simp [show j.toNat < l.length by omega]
  · have : ¬ i.toNat = j.toNat := by omega
    simp [h, this]
theorem markL_at : ∀ (c : List Int) (S : List Bool), (∀ x ∈ c, 0 ≤ x ∧ x < S.length) → ∀ j : Int, 0 ≤ j → atD false (markL S c) j = (atD false S j || decide (j ∈ c))
  | [], S, _, j, _ => by simp [markL]
  | x :: r, S, h, j, j0 => by
    obtain ⟨a, b⟩ := h x (by simp)
    show atD false (markL (S.set x.toNat true) r) j = _
    rw [markL_at r _ (fun y hy => by rw [List.length_set]; exact h y (by simp [hy])) j j0, atB_set a b j0]
    by_cases e : j = x
    · subst e; simp
    · simp [e]
/-- the first j places of a cycle. -/
def orbK (p : List Int) (i : Int) (j : Nat) : List Int := (List.range j).map (itP p i)
theorem orbK_succ (p : List Int) (i : Int) (j : Nat) : orbK p i (j + 1) = orbK p i j ++ [itP p i j] := by simp [orbK, List.range_succ]
theorem orbK_len (p : List Int) (i : Int) (j : Nat) : (orbK p i j).length = j := by simp [orbK]
theorem orbK_new {p : List Int} (hp : IsP p) {i : Int} (h0 : 0 ≤ i) (h1 : i < p.length) {d : Nat} (h : Ord p i d) {j : Nat} (hj : j < d) : itP p i j ∉ orbK p i j := by
  intro hm
  obtain ⟨a, ha, e⟩ := List.mem_map.1 hm
  have ha := List.mem_range.1 ha
  have e2 : itP p i j = itP p (itP p i (j - a)) a := by rw [← itP_add]; congr 1; omega
  rw [e2] at e
  have rd := itP_rng hp h0 h1 (j - a)
  exact h.min (j - a) (by omega) (by omega) (itP_inj hp h0 h1 rd.1 rd.2 a e).symm
theorem orbK_out {p : List Int} (hp : IsP p) {k : Nat} (hk : k < p.length) (hn : (k : Int) ∉ (cycK p k).flatten) {d : Nat} (h : Ord p k d) {j : Nat} (hj : j ≤ d) : itP p k j ∉ (cycK p k).flatten := by
  intro hm
  obtain ⟨_, _, h3⟩ := cycK_ok hp k (by omega)
  have hcl : ∀ m (x : Int), x ∈ (cycK p k).flatten → itP p x m ∈ (cycK p k).flatten := by
    intro m
    induction m with
    | zero => intro x hx; exact hx
    | succ m ih => intro x hx; exact h3 _ (ih x hx)
  have := hcl (d - j) _ hm
  rw [← itP_add, show d - j + j = d by omega, h.back] at this
  exact hn this
end Go.Proofs.YtmomeggnegcheaaGreatDoor
