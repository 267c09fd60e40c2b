/- Plain facts: stands without an error, moves ac swaps of places, the bound of the period. No condition. -/
import Derived.Test.YtmomeggnegcheaaGreatDoorPlB
import Derived.Test.YtmomeggnegcheaaGreatDoorMcA
set_option linter.all false
namespace Go.Proofs.YtmomeggnegcheaaGreatDoor
open Go.RowKit
set_option maxHeartbeats 1000000
set_option maxRecDepth 100000

/-! stands without an error -/
structure Stand (l : List Int) : Prop where
  lo : 4 ≤ l.length
  hi : l.length ≤ 64
  rng : ∀ x ∈ l, 0 ≤ x ∧ x ≤ 64
  ne : ∀ i j : Int, 0 ≤ i → i < l.length → 0 ≤ j → j < l.length → atD 0 l i ≠ 0 → atD 0 l i = atD 0 l j → i = j

theorem standGo_iff : ∀ (r seen : List Int), standGo seen r = 0 ↔ (∀ x ∈ r, 0 ≤ x ∧ x ≤ 64) ∧ (∀ x ∈ r, x ≠ 0 → x ∉ seen) ∧ r.Pairwise (fun a b => a ≠ 0 → a ≠ b)
  | [], seen => by simp [standGo]
  | x :: r, seen => by
    rw [standGo]
    by_cases h1 : x < 0 ∨ 64 < x
    · rw [if_pos h1]
      constructor
      · intro h; omega
      · intro ⟨h, _, _⟩; have := h x (by simp); omega
    · rw [if_neg h1]
      by_cases h2 : x ≠ 0 ∧ x ∈ seen
      · rw [if_pos h2]
        constructor
        · intro h; omega
        · intro ⟨_, h, _⟩; exact absurd h2.2 (h x (by simp) h2.1)
      · rw [if_neg h2, standGo_iff r (seen ++ [x])]
        constructor
        · intro ⟨a, b, c⟩
          refine ⟨?_, ?_, ?_⟩
          · intro y hy
            rcases List.mem_cons.1 hy with rfl | hy
            · omega
            · exact a y hy
          · intro y hy hy0 hs
            rcases List.mem_cons.1 hy with rfl | hy
            · exact h2 ⟨hy0, hs⟩
            · exact b y hy hy0 (List.mem_append_left _ hs)
          · refine List.pairwise_cons.2 ⟨?_, c⟩
            intro y hy hx0 e
            subst e
            exact b x hy hx0 (by simp)
        · intro ⟨a, b, c⟩
          obtain ⟨c1, c2⟩ := List.pairwise_cons.1 c
          refine ⟨fun y hy => a y (by simp [hy]), ?_, c2⟩
          intro y hy hy0 hs
          rcases List.mem_append.1 hs with hs | hs
          · exact b y (by simp [hy]) hy0 hs
          · simp at hs
            subst hs
            exact c1 y hy hy0 rfl

theorem checkStand_iff {l : List Int} : checkStand l = 0 ↔ Stand l := by
  constructor
  · intro h
    obtain ⟨h1, h2, h3, h4⟩ := checkStand_zero h
    obtain ⟨_, _, hp⟩ := (standGo_iff l []).1 h4
    refine ⟨h1, h2, h3, ?_⟩
    intro i j i0 i1 j0 j1 hne e
    rw [List.pairwise_iff_getElem] at hp
    have ei : atD 0 l i = l[i.toNat]'(by omega) := by simp [atD, show i.toNat < l.length by omega]
    have ej : atD 0 l j = l[j.toNat]'(by omega) := by simp [atD, show j.toNat < l.length by omega]
    rcases Nat.lt_trichotomy i.toNat j.toNat with k | k | k
    · exact absurd (by rw [← ei, ← ej, e]) (hp i.toNat j.toNat (by omega) (by omega) k (by rw [← ei]; exact hne))
    · omega
    · exact absurd (by rw [← ei, ← ej, e]) (hp j.toNat i.toNat (by omega) (by omega) k (by rw [← ej, ← e]; exact hne))
  · intro h
    unfold checkStand
    rw [if_neg (by have := h.lo; omega), if_neg (by have := h.hi; omega)]
    refine (standGo_iff l []).2 ⟨h.rng, fun x _ _ => by simp, ?_⟩
    rw [List.pairwise_iff_getElem]
    intro i j hi hj hij hne e
    have ei : atD 0 l (i : Int) = l[i] := by simp [atD, hi]
    have ej : atD 0 l (j : Int) = l[j] := by simp [atD, hj]
    have := h.ne i j (by omega) (by omega) (by omega) (by omega) (by rw [ei]; exact hne) (by rw [ei, ej, e])
    omega

/-! moves ac swaps -/
def sw (f t j : Int) : Int := if j = f then t else if j = t then f else j
theorem sw_rng {n f t j : Int} (hf : 0 ≤ f ∧ f < n) (ht : 0 ≤ t ∧ t < n) (hj : 0 ≤ j ∧ j < n) : 0 ≤ sw f t j ∧ sw f t j < n := by
  unfold sw; split
  · exact ht
  · split
    · exact hf
    · exact hj
theorem sw_sw (f t j : Int) : sw f t (sw f t j) = j := by
  unfold sw
  by_cases h1 : j = f
  · subst h1; by_cases h2 : t = j <;> simp [h2]
  · by_cases h2 : j = t
    · subst h2; simp [h1]
    · simp [h1, h2]
theorem legalN_iff {l : List Int} {f t : Int} : legalN l f t = 0 ↔ (0 ≤ f ∧ f < l.length) ∧ (0 ≤ t ∧ t < l.length) ∧ atD 0 l f ≠ 0 ∧ atD 0 l t = 0 := by
  unfold legalN inB
  by_cases h1 : (decide (0 ≤ f) && decide (f < (l.length : Int)) && (decide (0 ≤ t) && decide (t < (l.length : Int)))) = true
  · rw [if_pos h1]
    simp only [Bool.and_eq_true, decide_eq_true_eq] at h1
    by_cases h2 : atD 0 l f = 0
    · rw [if_neg (by simp [h2])]; constructor
      · intro h; omega
      · intro h; exact absurd h2 h.2.2.1
    · rw [if_pos (by simpa using h2)]
      by_cases h3 : atD 0 l t = 0
      · rw [if_pos (by simp [h3])]; exact ⟨fun _ => ⟨h1.1, h1.2, h2, h3⟩, fun _ => rfl⟩
      · rw [if_neg (by simpa using h3)]; constructor
        · intro h; omega
        · intro h; exact absurd h.2.2.2 h3
  · rw [if_neg h1]
    simp only [Bool.and_eq_true, decide_eq_true_eq] at h1
    constructor
    · intro h; omega
    · intro h; exact absurd ⟨h.1, h.2.1⟩ h1
theorem nextL_length (l : List Int) (f t : Int) : (nextL l f t).length = l.length := by simp [nextL]
theorem nextL_at {l : List Int} {f t : Int} (h : legalN l f t = 0) {j : Int} (hj : 0 ≤ j) : atD 0 (nextL l f t) j = atD 0 l (sw f t j) := by
  obtain ⟨hf, ht, hf0, ht0⟩ := legalN_iff.1 h
  unfold nextL sw
  rw [atD_set hf.1 (by simp; exact hf.2) hj, atD_set ht.1 ht.2 hj]
  by_cases h1 : j = f
  · rw [if_pos h1, if_pos h1, ht0]
  · rw [if_neg h1, if_neg h1]; split <;> rfl

/-- all moves are legal, one after the other. -/
def okAll : List Int → List (Int × Int) → Prop
  | _, [] => True
  | s, m :: r => legalN s m.1 m.2 = 0 ∧ okAll (nextL s m.1 m.2) r
def runL : List Int → List (Int × Int) → List Int
  | s, [] => s
  | s, m :: r => runL (nextL s m.1 m.2) r
/-- from where the thread of a slot comes. -/
def mvT : List (Int × Int) → Int → Int
  | [], j => j
  | m :: r, j => sw m.1 m.2 (mvT r j)
theorem runL_len : ∀ (ms : List (Int × Int)) (s : List Int), (runL s ms).length = s.length
  | [], s => rfl
  | m :: r, s => by rw [runL, runL_len r, nextL_length]
theorem replayGo_ok : ∀ (ms : List (Int × Int)) (s : List Int) (k : Nat) (ac : List (Int × Int)), okAll s ms → replayGo s ms k ac = (runL s ms, ac)
  | [], s, k, ac, _ => rfl
  | m :: r, s, k, ac, h => by rw [replayGo, if_pos h.1, runL]; exact replayGo_ok r _ _ _ h.2
theorem replayGo_pre : ∀ (ms : List (Int × Int)) (s : List Int) (k : Nat) (ac : List (Int × Int)), ∃ v, (replayGo s ms k ac).2 = ac ++ v
  | [], s, k, ac => ⟨[], by simp [replayGo]⟩
  | m :: r, s, k, ac => by
    rw [replayGo]
    split
    · exact replayGo_pre r _ _ _
    · obtain ⟨v, hv⟩ := replayGo_pre r s (k + 1) (ac ++ [((k : Int) + 1, legalN s m.1 m.2)])
      exact ⟨_, by rw [hv, List.append_assoc]⟩
theorem okAll_of : ∀ (ms : List (Int × Int)) (s : List Int) (k : Nat) (ac : List (Int × Int)), (replayGo s ms k ac).2 = ac → okAll s ms
  | [], s, k, ac, _ => trivial
  | m :: r, s, k, ac, h => by
    rw [replayGo] at h
    split at h
    · exact ⟨‹_›, okAll_of r _ _ _ h⟩
    · obtain ⟨v, hv⟩ := replayGo_pre r s (k + 1) (ac ++ [((k : Int) + 1, legalN s m.1 m.2)])
      rw [hv] at h
      have := congrArg List.length h
      simp at this
theorem okAll_replay {s : List Int} {ms : List (Int × Int)} : (replayL s ms).2 = [] ↔ okAll s ms := by
  constructor
  · exact okAll_of ms s 0 []
  · intro h; rw [replayL, replayGo_ok ms s 0 [] h]
theorem okAll_run {s : List Int} {ms : List (Int × Int)} (h : okAll s ms) : replayL s ms = (runL s ms, []) := replayGo_ok ms s 0 [] h

/-- the same slots are free. -/
def free2 (s x : List Int) : Prop := x.length = s.length ∧ ∀ j : Int, 0 ≤ j → j < s.length → (atD 0 x j = 0 ↔ atD 0 s j = 0)
theorem free2_legal {s x : List Int} (h : free2 s x) {f t : Int} (hl : legalN s f t = 0) : legalN x f t = 0 := by
  obtain ⟨hf, ht, hf0, ht0⟩ := legalN_iff.1 hl
  refine legalN_iff.2 ⟨by rw [h.1]; exact hf, by rw [h.1]; exact ht, ?_, ?_⟩
  · intro e; exact hf0 ((h.2 f hf.1 hf.2).1 e)
  · exact (h.2 t ht.1 ht.2).2 ht0
theorem free2_next {s x : List Int} (h : free2 s x) {f t : Int} (hl : legalN s f t = 0) : free2 (nextL s f t) (nextL x f t) := by
  obtain ⟨hf, ht, _, _⟩ := legalN_iff.1 hl
  refine ⟨by rw [nextL_length, nextL_length, h.1], fun j j0 j1 => ?_⟩
  rw [nextL_length] at j1
  rw [nextL_at hl j0, nextL_at (free2_legal h hl) j0]
  obtain ⟨a, b⟩ := sw_rng hf ht ⟨j0, j1⟩
  exact h.2 _ a b
theorem free2_ok : ∀ (ms : List (Int × Int)) (s x : List Int), free2 s x → okAll s ms → okAll x ms
  | [], _, _, _, _ => trivial
  | m :: r, s, x, h, ho => ⟨free2_legal h ho.1, free2_ok r _ _ (free2_next h ho.1) ho.2⟩
theorem mvT_rng : ∀ (ms : List (Int × Int)) (s : List Int), okAll s ms → ∀ j : Int, 0 ≤ j → j < s.length → 0 ≤ mvT ms j ∧ mvT ms j < s.length
  | [], _, _, j, j0, j1 => ⟨j0, j1⟩
  | m :: r, s, h, j, j0, j1 => by
    obtain ⟨hf, ht, _, _⟩ := legalN_iff.1 h.1
    have := mvT_rng r (nextL s m.1 m.2) h.2 j j0 (by rw [nextL_length]; exact j1)
    rw [nextL_length] at this
    exact sw_rng hf ht this
theorem mvT_inj : ∀ (ms : List (Int × Int)) (i j : Int), mvT ms i = mvT ms j → i = j
  | [], _, _, h => h
  | m :: r, i, j, h => by
    rw [mvT, mvT] at h
    have := congrArg (sw m.1 m.2) h
    rw [sw_sw, sw_sw] at this
    exact mvT_inj r i j this
theorem runL_at : ∀ (ms : List (Int × Int)) (s : List Int), okAll s ms → ∀ j : Int, 0 ≤ j → j < s.length → atD 0 (runL s ms) j = atD 0 s (mvT ms j)
  | [], _, _, _, _, _ => rfl
  | m :: r, s, h, j, j0, j1 => by
    have hr := mvT_rng r (nextL s m.1 m.2) h.2 j j0 (by rw [nextL_length]; exact j1)
    rw [runL, runL_at r _ h.2 j j0 (by rw [nextL_length]; exact j1), nextL_at h.1 hr.1, mvT]
theorem stand_run {s : List Int} {ms : List (Int × Int)} (hs : Stand s) (h : okAll s ms) : Stand (runL s ms) := by
  refine ⟨by rw [runL_len]; exact hs.lo, by rw [runL_len]; exact hs.hi, ?_, ?_⟩
  · intro x hx
    obtain ⟨i, hi, rfl⟩ := List.mem_iff_getElem.1 hx
    have e : (runL s ms)[i] = atD 0 (runL s ms) (i : Int) := by simp [atD, hi]
    rw [runL_len] at hi
    have hr := mvT_rng ms s h i (by omega) (by omega)
    rw [e, runL_at ms s h i (by omega) (by omega)]
    exact hs.rng _ (atD_memZ hr.1 hr.2)
  · intro i j i0 i1 j0 j1 hne e
    rw [runL_len] at i1 j1
    rw [runL_at ms s h i i0 i1] at hne e
    rw [runL_at ms s h j j0 j1] at e
    have hi := mvT_rng ms s h i i0 i1
    have hj := mvT_rng ms s h j j0 j1
    exact mvT_inj ms i j (hs.ne _ _ hi.1 hi.2 hj.1 hj.2 hne e)

/-! a round ac a permutation -/
theorem shapeGo_at (l t : List Int) : ∀ (n k : Nat), shapeGo l t k n = true → ∀ j : Nat, k ≤ j → j < k + n → (atD 0 l j = 0 ↔ atD 0 t j = 0)
  | 0, k, _, j, h1, h2 => by omega
  | n + 1, k, h, j, h1, h2 => by
    rw [shapeGo, Bool.and_eq_true] at h
    by_cases e : j = k
    · subst e
      have := h.1
      unfold sameB at this
      by_cases a : atD 0 l j = 0 <;> by_cases b : atD 0 t j = 0 <;> simp_all
    · exact shapeGo_at l t n (k + 1) h.2 j (by omega) (by omega)
theorem plc_at (t : List Int) (x : Int) : ∀ (k : Nat), (∃ j : Nat, j < k ∧ atD 0 t j = x) → 0 ≤ plc t k x ∧ plc t k x < k ∧ atD 0 t (plc t k x) = x
  | 0, ⟨j, h, _⟩ => by omega
  | k + 1, ⟨j, h, e⟩ => by
    rw [plc]
    split
    · rename_i h2; exact ⟨by omega, by omega, h2.symm⟩
    · rename_i h2
      have hj : j < k := by
        rcases Nat.lt_or_ge j k with h3 | h3
        · exact h3
        · exfalso; apply h2; rw [← e, show j = k by omega]
      obtain ⟨a, b, c⟩ := plc_at t x k ⟨j, hj, e⟩
      exact ⟨a, by omega, c⟩

theorem mvT_surj (ms : List (Int × Int)) (s : List Int) (h : okAll s ms) (i : Int) (i0 : 0 ≤ i) (i1 : i < s.length) : ∃ j : Nat, j < s.length ∧ mvT ms j = i := by
  induction ms generalizing s i with
  | nil => exact ⟨i.toNat, by omega, by show ((i.toNat : Nat) : Int) = i; omega⟩
  | cons m r ih =>
    obtain ⟨hf, ht, _, _⟩ := legalN_iff.1 h.1
    obtain ⟨a, b⟩ := sw_rng hf ht ⟨i0, i1⟩
    obtain ⟨j, hj, e⟩ := ih (nextL s m.1 m.2) h.2 (sw m.1 m.2 i) a (by rw [nextL_length]; exact b)
    rw [nextL_length] at hj
    exact ⟨j, hj, by rw [mvT, e, sw_sw]⟩

/-- what a round without an error does: the permutation leads each thread to its place. -/
structure RoundP (s : List Int) (ms : List (Int × Int)) (p : List Int) : Prop where
  st : Stand s
  ok : okAll s ms
  len : p.length = s.length
  sh : ∀ j : Int, 0 ≤ j → j < s.length → (atD 0 s j = 0 ↔ atD 0 (runL s ms) j = 0)
  fr : ∀ i : Int, 0 ≤ i → i < s.length → atD 0 s i = 0 → atD 0 p i = i
  rng : ∀ i : Int, 0 ≤ i → i < s.length → 0 ≤ atD 0 p i ∧ atD 0 p i < s.length
  mv : ∀ i : Int, 0 ≤ i → i < s.length → atD 0 s i ≠ 0 → mvT ms (atD 0 p i) = i
theorem round_p {s : List Int} {ms : List (Int × Int)} (h : roundE s ms = 0) : RoundP s ms (RoundL s ms) := by
  obtain ⟨h1, h2, h3, h4⟩ := roundE_zero h
  have hs := checkStand_iff.1 h1
  have ho := okAll_replay.1 h3
  have e : RoundL s ms = permL s (runL s ms) s.length := by rw [RoundL, if_pos h, okAll_run ho]
  rw [okAll_run ho] at h4
  have hat : ∀ i : Int, 0 ≤ i → i < s.length → atD 0 (RoundL s ms) i = goes s (runL s ms) i.toNat := by
    intro i i0 i1
    rw [e]
    unfold permL atD
    rw [List.getD_eq_getElem?_getD, List.getElem?_map, List.getElem?_range (by omega)]
    rfl
  have hsh : ∀ j : Int, 0 ≤ j → j < s.length → (atD 0 s j = 0 ↔ atD 0 (runL s ms) j = 0) := by
    intro j j0 j1
    have := shapeGo_at s (runL s ms) s.length 0 h4 j.toNat (by omega) (by omega)
    rwa [Int.toNat_of_nonneg j0] at this
  have hmv : ∀ i : Int, 0 ≤ i → i < s.length → atD 0 s i ≠ 0 → (0 ≤ atD 0 (RoundL s ms) i ∧ atD 0 (RoundL s ms) i < s.length) ∧ mvT ms (atD 0 (RoundL s ms) i) = i := by
    intro i i0 i1 hne
    have hi : ((i.toNat : Nat) : Int) = i := by omega
    rw [hat i i0 i1, goes, hi, if_pos (by simpa using hne)]
    obtain ⟨j, hj, ej⟩ := mvT_surj ms s ho i i0 i1
    have hx := plc_at (runL s ms) (atD 0 s i) (runL s ms).length ⟨j, by rw [runL_len]; exact hj, by rw [runL_at ms s ho j (by omega) (by omega), ej]⟩
    rw [runL_len] at hx ⊢
    obtain ⟨a, b, c⟩ := hx
    refine ⟨⟨a, by omega⟩, ?_⟩
    rw [runL_at ms s ho _ a (by omega)] at c
    have hr := mvT_rng ms s ho _ a (by omega)
    exact (hs.ne i _ i0 i1 hr.1 hr.2 hne c.symm).symm
  have hfr : ∀ i : Int, 0 ≤ i → i < s.length → atD 0 s i = 0 → atD 0 (RoundL s ms) i = i := by
    intro i i0 i1 hz
    rw [hat i i0 i1, goes, show ((i.toNat : Nat) : Int) = i by omega, if_neg (by simp [hz])]
  refine ⟨hs, ho, by rw [e, permL_len], hsh, hfr, ?_, fun i i0 i1 hne => (hmv i i0 i1 hne).2⟩
  intro i i0 i1
  by_cases hz : atD 0 s i = 0
  · rw [hfr i i0 i1 hz]; exact ⟨i0, i1⟩
  · exact (hmv i i0 i1 hz).1

section
variable {s : List Int} {ms : List (Int × Int)} {p : List Int}
theorem RoundP.inj (h : RoundP s ms p) : ∀ i j : Int, 0 ≤ i → i < s.length → 0 ≤ j → j < s.length → atD 0 p i = atD 0 p j → i = j := by
  intro i j i0 i1 j0 j1 e
  have key : ∀ i j : Int, 0 ≤ i → i < s.length → 0 ≤ j → j < s.length → atD 0 p i = atD 0 p j → atD 0 s i = 0 → atD 0 s j ≠ 0 → False := by
    intro i j i0 i1 j0 j1 e hz hn
    rw [h.fr i i0 i1 hz] at e
    have hm := h.mv j j0 j1 hn
    rw [← e] at hm
    have := (h.sh i i0 i1).1 hz
    rw [runL_at ms s h.ok i i0 i1, hm] at this
    exact hn this
  by_cases a : atD 0 s i = 0
  · by_cases b : atD 0 s j = 0
    · rw [h.fr i i0 i1 a, h.fr j j0 j1 b] at e; exact e
    · exact (key i j i0 i1 j0 j1 e a b).elim
  · by_cases b : atD 0 s j = 0
    · exact (key j i j0 j1 i0 i1 e.symm b a).elim
    · rw [← h.mv i i0 i1 a, ← h.mv j j0 j1 b, e]
theorem RoundP.isP (h : RoundP s ms p) : IsP p :=
  ⟨fun x a b => by have := h.rng x a (by rw [← h.len]; exact b); rw [h.len]; exact this, fun x y a b c d e => h.inj x y a (by rw [← h.len]; exact b) c (by rw [← h.len]; exact d) e⟩

/-- one more round. -/
theorem RoundP.next (h : RoundP s ms p) {x : List Int} (hx : free2 s x) (hsx : Stand x) : okAll x ms ∧ free2 s (runL x ms) ∧ Stand (runL x ms) ∧ ∀ i : Int, 0 ≤ i → i < s.length → atD 0 (runL x ms) (atD 0 p i) = atD 0 x i := by
  have ho := free2_ok ms s x hx h.ok
  have hl := hx.1
  have hat : ∀ j : Int, 0 ≤ j → j < s.length → atD 0 (runL x ms) j = atD 0 x (mvT ms j) := fun j j0 j1 => runL_at ms x ho j j0 (by rw [hl]; exact j1)
  have hz : ∀ j : Int, 0 ≤ j → j < s.length → (atD 0 (runL x ms) j = 0 ↔ atD 0 s j = 0) := by
    intro j j0 j1
    have hr := mvT_rng ms s h.ok j j0 j1
    rw [hat j j0 j1, hx.2 _ hr.1 hr.2, h.sh j j0 j1, runL_at ms s h.ok j j0 j1]
  refine ⟨ho, ⟨by rw [runL_len, hl], hz⟩, stand_run hsx ho, ?_⟩
  intro i i0 i1
  obtain ⟨a, b⟩ := h.rng i i0 i1
  by_cases hn : atD 0 s i = 0
  · rw [h.fr i i0 i1 hn]
    have h1 := (hz i i0 i1).2 hn
    have h2 := (hx.2 i i0 i1).2 hn
    rw [h1, h2]
  · rw [hat _ a b, h.mv i i0 i1 hn]

def nowL (s : List Int) (ms : List (Int × Int)) : Nat → List Int
  | 0 => s
  | n + 1 => runL (nowL s ms n) ms
theorem RoundP.now (h : RoundP s ms p) : ∀ n, free2 s (nowL s ms n) ∧ Stand (nowL s ms n) ∧ ∀ i : Int, 0 ≤ i → i < s.length → atD 0 (nowL s ms n) (itP p i n) = atD 0 s i
  | 0 => ⟨⟨rfl, fun _ _ _ => Iff.rfl⟩, h.st, fun _ _ _ => rfl⟩
  | n + 1 => by
    obtain ⟨a, b, c⟩ := h.now n
    obtain ⟨_, d, e, f⟩ := h.next a b
    refine ⟨d, e, fun i i0 i1 => ?_⟩
    have hr := itP_rng h.isP i0 (by rw [h.len]; exact i1) n
    rw [h.len] at hr
    rw [nowL, itP, f _ hr.1 hr.2, c i i0 i1]
theorem RoundP.now_ok (h : RoundP s ms p) (n : Nat) : replayL (nowL s ms n) ms = (nowL s ms (n + 1), []) := by
  obtain ⟨a, b, _⟩ := h.now n
  rw [okAll_run (h.next a b).1, nowL]
theorem RoundP.back (h : RoundP s ms p) (n : Nat) : nowL s ms n = s ↔ ∀ i : Int, 0 ≤ i → i < s.length → itP p i n = i := by
  obtain ⟨a, b, c⟩ := h.now n
  have hid : ∀ i : Int, 0 ≤ i → i < s.length → atD 0 s i = 0 → ∀ n, itP p i n = i := by
    intro i i0 i1 hz n
    induction n with
    | zero => rfl
    | succ n ih => rw [itP, ih]; exact h.fr i i0 i1 hz
  constructor
  · intro e i i0 i1
    by_cases hz : atD 0 s i = 0
    · exact hid i i0 i1 hz n
    · have := c i i0 i1
      rw [e] at this
      have hr := itP_rng h.isP i0 (by rw [h.len]; exact i1) n
      rw [h.len] at hr
      exact (h.st.ne i _ i0 i1 hr.1 hr.2 hz this.symm).symm
  · intro e
    refine ext_atD a.1 (fun j j0 j1 => ?_)
    rw [a.1] at j1
    have := c j j0 j1
    rwa [e j j0 j1] at this
end

/-! the period is the least number of steps after which everything is in its place -/
theorem itP_mul {p : List Int} {i : Int} {d : Nat} (h : itP p i d = i) : ∀ q : Nat, itP p i (q * d) = i
  | 0 => by simp [itP]
  | q + 1 => by rw [Nat.succ_mul, itP_add, h, itP_mul h q]
theorem ord_dvd {p : List Int} {i : Int} {d : Nat} (h : Ord p i d) (n : Nat) : itP p i n = i ↔ d ∣ n := by
  have e : n = n % d + n / d * d := by have := Nat.mod_add_div n d; rw [Nat.mul_comm] at this; omega
  constructor
  · intro hn
    rw [e, itP_add, itP_mul h.back] at hn
    have hm := Nat.mod_lt n h.pos
    rcases Nat.eq_zero_or_pos (n % d) with h0 | h0
    · exact Nat.dvd_of_mod_eq_zero h0
    · exact absurd hn (h.min _ h0 hm)
  · rintro ⟨q, rfl⟩
    rw [Nat.mul_comm]; exact itP_mul h.back q
theorem lcmF_lcm (o n : Nat) : lcmF o n = Nat.lcm o n := by
  unfold lcmF Nat.lcm
  rw [Nat.div_mul_right_comm (Nat.gcd_dvd_left o n)]
theorem perF_dvd (k : Nat) : ∀ (ls : List Nat) (o : Nat), ls.foldl lcmF o ∣ k ↔ o ∣ k ∧ ∀ n ∈ ls, n ∣ k
  | [], o => by simp
  | n :: r, o => by
    rw [List.foldl_cons, perF_dvd k r, lcmF_lcm, Nat.lcm_dvd_iff]
    simp [and_assoc]
theorem cycK_orb {p : List Int} (hp : IsP p) : ∀ {k : Nat}, k ≤ p.length → ∀ l ∈ cycK p k, ∃ j : Nat, j < k ∧ l = orb p j
  | 0, _, l, h => by simp [cycK] at h
  | k + 1, hk, l, h => by
    rw [cycK] at h
    split at h
    · obtain ⟨j, a, b⟩ := cycK_orb hp (by omega) l h; exact ⟨j, by omega, b⟩
    · rcases List.mem_append.1 h with h | h
      · obtain ⟨j, a, b⟩ := cycK_orb hp (by omega) l h; exact ⟨j, by omega, b⟩
      · simp at h; exact ⟨k, by omega, h⟩
theorem cycK_all {p : List Int} (hp : IsP p) : ∀ {k : Nat}, k ≤ p.length → ∀ j : Nat, j < k → (j : Int) ∈ (cycK p k).flatten
  | 0, _, j, h => by omega
  | k + 1, hk, j, h => by
    rw [cycK]
    split
    · rename_i hin
      by_cases e : j = k
      · subst e; exact hin
      · exact cycK_all hp (by omega) j (by omega)
    · rw [List.flatten_append]
      by_cases e : j = k
      · subst e
        refine List.mem_append_right _ ?_
        obtain ⟨d, hd⟩ := ord_ex hp (i := (j : Int)) (by omega) (by omega)
        simp only [List.flatten_cons, List.flatten_nil, List.append_nil]
        rw [orb_eq hd]
        exact List.mem_map.2 ⟨0, by simp [hd.pos], rfl⟩
      · exact List.mem_append_left _ (cycK_all hp (by omega) j (by omega))
theorem period_iff {p : List Int} (hp : IsP p) (n : Nat) : (∀ i : Int, 0 ≤ i → i < p.length → itP p i n = i) ↔ periodN p ∣ n := by
  unfold periodN perF
  rw [perF_dvd]
  constructor
  · intro h
    refine ⟨Nat.one_dvd _, fun m hm => ?_⟩
    obtain ⟨l, hl, rfl⟩ := List.mem_map.1 hm
    obtain ⟨j, hj, rfl⟩ := cycK_orb hp (Nat.le_refl _) l hl
    obtain ⟨d, hd⟩ := ord_ex hp (i := (j : Int)) (by omega) (by omega)
    rw [orb_len hd]
    exact (ord_dvd hd n).1 (h j (by omega) (by omega))
  · rintro ⟨_, h⟩ i i0 i1
    have hin := cycK_all hp (Nat.le_refl _) i.toNat (by omega)
    rw [Int.toNat_of_nonneg i0] at hin
    obtain ⟨l, hl, hil⟩ := List.mem_flatten.1 hin
    obtain ⟨j, hj, rfl⟩ := cycK_orb hp (Nat.le_refl _) l hl
    obtain ⟨d, hd⟩ := ord_ex hp (i := (j : Int)) (by omega) (by omega)
    have hdv := h _ (List.mem_map.2 ⟨_, hl, rfl⟩)
    rw [orb_len hd] at hdv
    rw [orb_eq hd] at hil
    obtain ⟨m, _, rfl⟩ := List.mem_map.1 hil
    rw [← itP_add, Nat.add_comm, itP_add, (ord_dvd hd n).2 hdv]

/-! the period of at most 64 places is small -/
def wgt (o m : Nat) : Nat := if m ∣ o then m * 4 ^ m else 5 ^ m
def wgtL (o : Nat) : List Nat → Nat
  | [] => 1
  | m :: r => wgt o m * wgtL o r
theorem wgt_mono {o o' m : Nat} (h : o ∣ o') (hm : 5 ^ m ≤ m * 4 ^ m) : wgt o m ≤ wgt o' m := by
  unfold wgt
  by_cases a : m ∣ o
  · rw [if_pos a, if_pos (Nat.dvd_trans a h)]; exact Nat.le_refl _
  · rw [if_neg a]; split
    · exact hm
    · exact Nat.le_refl _
theorem wgtL_mono {o o' : Nat} (h : o ∣ o') : ∀ ms : List Nat, (∀ m ∈ ms, 5 ^ m ≤ m * 4 ^ m) → wgtL o ms ≤ wgtL o' ms
  | [], _ => Nat.le_refl _
  | m :: r, hm => Nat.mul_le_mul (wgt_mono h (hm m (by simp))) (wgtL_mono h r (fun x hx => hm x (by simp [hx])))
theorem wgtL_in {o o' n : Nat} (h : o ∣ o') (h1 : ¬ n ∣ o) (h2 : n ∣ o') : ∀ ms : List Nat, (∀ m ∈ ms, 5 ^ m ≤ m * 4 ^ m) → n ∈ ms → wgtL o ms * (n * 4 ^ n) ≤ wgtL o' ms * 5 ^ n
  | [], _, hn => by simp at hn
  | m :: r, hm, hn => by
    rw [wgtL, wgtL]
    by_cases e : n = m
    · subst e
      have hr := wgtL_mono h r (fun x hx => hm x (by simp [hx]))
      have a1 : wgt o n = 5 ^ n := if_neg h1
      have a2 : wgt o' n = n * 4 ^ n := if_pos h2
      rw [a1, a2]
      calc 5 ^ n * wgtL o r * (n * 4 ^ n) = (n * 4 ^ n) * wgtL o r * 5 ^ n := by ac_rfl
        _ ≤ (n * 4 ^ n) * wgtL o' r * 5 ^ n := Nat.mul_le_mul_right _ (Nat.mul_le_mul_left _ hr)
    · have hr := wgtL_in h h1 h2 r (fun x hx => hm x (by simp [hx])) (by simpa [e] using hn)
      have hw := wgt_mono h (hm m (by simp))
      calc wgt o m * wgtL o r * (n * 4 ^ n) = wgt o m * (wgtL o r * (n * 4 ^ n)) := by ac_rfl
        _ ≤ wgt o' m * (wgtL o' r * 5 ^ n) := Nat.mul_le_mul hw hr
        _ = wgt o' m * wgtL o' r * 5 ^ n := by ac_rfl
def msW : List Nat := [2, 3, 4, 5, 6, 7, 8, 9, 10]
theorem msW_ok : ∀ m ∈ msW, 5 ^ m ≤ m * 4 ^ m := by decide
theorem big_pow : ∀ n : Nat, 11 ≤ n → n * 4 ^ n ≤ 5 ^ n := by
  intro n h
  induction n with
  | zero => omega
  | succ n ih =>
    by_cases e : n + 1 = 11
    · have : n = 10 := by omega
      subst this; decide
    · have := ih (by omega)
      rw [Nat.pow_succ, Nat.pow_succ]
      have h4 : (n + 1) * (4 ^ n * 4) = 4 * (n + 1) * 4 ^ n := by ac_rfl
      rw [h4]
      calc 4 * (n + 1) * 4 ^ n ≤ 5 * n * 4 ^ n := Nat.mul_le_mul_right _ (by omega)
        _ = 5 * (n * 4 ^ n) := by ac_rfl
        _ ≤ 5 * 5 ^ n := Nat.mul_le_mul_left _ this
        _ = 5 ^ n * 5 := by ac_rfl
theorem perW (kW : Nat) (ls : List Nat) : ∀ (o s : Nat), (∀ n ∈ ls, 0 < n) → o * 4 ^ s * kW ≤ 5 ^ s * wgtL o msW → (ls.foldl lcmF o) * 4 ^ (s + ls.sum) * kW ≤ 5 ^ (s + ls.sum) * wgtL (ls.foldl lcmF o) msW := by
  induction ls with
  | nil => intro o s _ h; rw [List.foldl_nil, List.sum_nil, Nat.add_zero]; exact h
  | cons n r ih =>
    intro o s hp h
    have hn := hp n (by simp)
    rw [List.foldl_cons, List.sum_cons, ← Nat.add_assoc]
    refine ih _ _ (fun x hx => hp x (by simp [hx])) ?_
    have h4 : 4 ^ n ≤ 5 ^ n := Nat.pow_le_pow_left (by decide) n
    rw [Nat.pow_add, Nat.pow_add]
    have hd1 : o ∣ lcmF o n := by rw [lcmF_lcm]; exact Nat.dvd_lcm_left _ _
    have hd2 : n ∣ lcmF o n := by rw [lcmF_lcm]; exact Nat.dvd_lcm_right _ _
    have hle := lcmF_le o n
    by_cases hdv : n ∣ o
    · have e : lcmF o n = o := by rw [lcmF_lcm]; exact Nat.lcm_eq_left hdv
      rw [e]
      calc o * (4 ^ s * 4 ^ n) * kW = (o * 4 ^ s * kW) * 4 ^ n := by ac_rfl
        _ ≤ (5 ^ s * wgtL o msW) * 5 ^ n := Nat.mul_le_mul h h4
        _ = 5 ^ s * 5 ^ n * wgtL o msW := by ac_rfl
    · have h1 : lcmF o n * (4 ^ s * 4 ^ n) * kW ≤ (5 ^ s * wgtL o msW) * (n * 4 ^ n) := by
        calc lcmF o n * (4 ^ s * 4 ^ n) * kW ≤ (o * n) * (4 ^ s * 4 ^ n) * kW := Nat.mul_le_mul_right _ (Nat.mul_le_mul_right _ hle)
          _ = (o * 4 ^ s * kW) * (n * 4 ^ n) := by ac_rfl
          _ ≤ (5 ^ s * wgtL o msW) * (n * 4 ^ n) := Nat.mul_le_mul_right _ h
      refine Nat.le_trans h1 ?_
      by_cases h10 : n ≤ 10
      · have hin : n ∈ msW := by
          have h2 : n ≠ 1 := fun e => hdv (by rw [e]; exact Nat.one_dvd _)
          have : n = 2 ∨ n = 3 ∨ n = 4 ∨ n = 5 ∨ n = 6 ∨ n = 7 ∨ n = 8 ∨ n = 9 ∨ n = 10 := by omega
          unfold msW
          rcases this with rfl | rfl | rfl | rfl | rfl | rfl | rfl | rfl | rfl <;> decide
        have hw := wgtL_in hd1 hdv hd2 msW msW_ok hin
        calc 5 ^ s * wgtL o msW * (n * 4 ^ n) = 5 ^ s * (wgtL o msW * (n * 4 ^ n)) := by ac_rfl
          _ ≤ 5 ^ s * (wgtL (lcmF o n) msW * 5 ^ n) := Nat.mul_le_mul_left _ hw
          _ = 5 ^ s * 5 ^ n * wgtL (lcmF o n) msW := by ac_rfl
      · have hb := big_pow n (by omega)
        have hw := wgtL_mono hd1 msW msW_ok
        calc 5 ^ s * wgtL o msW * (n * 4 ^ n) ≤ 5 ^ s * wgtL (lcmF o n) msW * 5 ^ n := Nat.mul_le_mul (Nat.mul_le_mul_left _ hw) hb
          _ = 5 ^ s * 5 ^ n * wgtL (lcmF o n) msW := by ac_rfl
theorem wgtL_top (o : Nat) : ∀ ms : List Nat, (∀ m ∈ ms, 5 ^ m ≤ m * 4 ^ m) → wgtL o ms ≤ wgtL 0 ms := fun ms h => wgtL_mono (Nat.dvd_zero o) ms h
theorem perF_small (ls : List Nat) (hp : ∀ n ∈ ls, 0 < n) (h : ls.sum ≤ 64) : perF ls < 100000000 := by
  have h0 := perW (5 ^ 54) ls 1 0 hp (by decide +kernel)
  rw [Nat.zero_add] at h0
  have h1 := Nat.le_trans h0 (Nat.mul_le_mul_left _ (wgtL_top _ msW msW_ok))
  obtain ⟨k, hk⟩ : ∃ k, 64 = ls.sum + k := ⟨64 - ls.sum, by omega⟩
  have h2 : perF ls * 4 ^ 64 * 5 ^ 54 ≤ 5 ^ 64 * wgtL 0 msW := by
    rw [hk, Nat.pow_add, Nat.pow_add]
    calc perF ls * (4 ^ ls.sum * 4 ^ k) * 5 ^ 54 = (perF ls * 4 ^ ls.sum * 5 ^ 54) * 4 ^ k := by ac_rfl
      _ ≤ (5 ^ ls.sum * wgtL 0 msW) * 5 ^ k := Nat.mul_le_mul h1 (Nat.pow_le_pow_left (by decide) k)
      _ = 5 ^ ls.sum * 5 ^ k * wgtL 0 msW := by ac_rfl
  rcases Nat.lt_or_ge (perF ls) 100000000 with h3 | h3
  · exact h3
  · exfalso
    have h4 := Nat.le_trans (Nat.mul_le_mul_right (5 ^ 54) (Nat.mul_le_mul_right (4 ^ 64) h3)) h2
    exact absurd h4 (by decide +kernel)
end Go.Proofs.YtmomeggnegcheaaGreatDoor
