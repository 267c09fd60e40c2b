/- Plain facts on strands that do not alternate. Conditions: as stated. -/
import Derived.Test.YtogbclcnmogaeaaGreatDoorLtA
set_option linter.all false
namespace Go.Proofs.YtogbclcnmogaeaaGreatDoor

/-- the side of a strand at a crossing: 1 above, -1 below, 0 elsewhere. -/
def sideOf (s : Int) (p : Int × Int) : Int := if p.2 = s then -1 else if p.1 = s then 1 else 0
/-- a strand has two crossings, one after the other, on the same side. -/
def failGo (s : Int) : Int → List (Int × Int) → Bool
  | _, [] => false
  | last, p :: r => if sideOf s p ≠ 0 ∧ sideOf s p = last then true else failGo s (if sideOf s p ≠ 0 then sideOf s p else last) r
theorem fail_one {s : Int} {f : Int → Int} {p : Int × Int} {r : List (Int × Int)} (h : p.1 ≠ p.2) (hs : s = p.1) : failGo s (f s) (p :: r) = if f s = 1 then true else failGo s (altLast f p s) r := by
  have e : sideOf s p = 1 := by unfold sideOf; rw [if_neg (by omega), if_pos hs.symm]
  have e2 : altLast f p s = 1 := by unfold altLast; rw [if_pos hs]
  rw [failGo, e, e2]
  by_cases h1 : f s = 1
  · rw [if_pos ⟨by omega, h1.symm⟩, if_pos h1]
  · rw [if_neg (fun hh => h1 hh.2.symm), if_neg h1, if_pos (by omega)]
theorem fail_two {s : Int} {f : Int → Int} {p : Int × Int} {r : List (Int × Int)} (h : p.1 ≠ p.2) (hs : s = p.2) : failGo s (f s) (p :: r) = if f s = -1 then true else failGo s (altLast f p s) r := by
  have e : sideOf s p = -1 := by unfold sideOf; rw [if_pos hs.symm]
  have e2 : altLast f p s = -1 := by unfold altLast; rw [if_neg (by omega), if_pos hs]
  rw [failGo, e, e2]
  by_cases h1 : f s = -1
  · rw [if_pos ⟨by omega, h1.symm⟩, if_pos h1]
  · rw [if_neg (fun hh => h1 hh.2.symm), if_neg h1, if_pos (by omega)]
theorem fail_else {s : Int} {f : Int → Int} {p : Int × Int} {r : List (Int × Int)} (h1 : s ≠ p.1) (h2 : s ≠ p.2) : failGo s (f s) (p :: r) = failGo s (altLast f p s) r := by
  have e : sideOf s p = 0 := by unfold sideOf; rw [if_neg (fun h => h2 h.symm), if_neg (fun h => h1 h.symm)]
  have e2 : altLast f p s = f s := by unfold altLast; rw [if_neg h1, if_neg h2]
  rw [failGo, e, e2, if_neg (fun hh => hh.1 rfl), if_neg (fun hh => hh rfl)]
theorem altLeast_spec (f : Int → Int) (least : Int) (p : Int × Int) (h0 : 0 ≤ least) (h1 : 1 ≤ p.1) (h2 : 1 ≤ p.2) :
    0 ≤ altLeast f least p ∧ (least ≠ 0 → altLeast f least p ≠ 0 ∧ altLeast f least p ≤ least) ∧ (f p.1 = 1 → altLeast f least p ≠ 0 ∧ altLeast f least p ≤ p.1) ∧ (f p.2 = -1 → altLeast f least p ≠ 0 ∧ altLeast f least p ≤ p.2) ∧
    (altLeast f least p = least ∨ (altLeast f least p = p.1 ∧ f p.1 = 1) ∨ (altLeast f least p = p.2 ∧ f p.2 = -1)) := by
  have hm : ∀ a s : Int, 0 ≤ a → 1 ≤ s → 0 ≤ minZ a s ∧ minZ a s ≠ 0 ∧ minZ a s ≤ s ∧ (a ≠ 0 → minZ a s ≤ a) ∧ (minZ a s = a ∨ minZ a s = s) := by
    intro a s ha hs
    unfold minZ
    split <;> omega
  have m1 := hm least p.1 h0 h1
  have m2 := hm least p.2 h0 h2
  have m3 := hm (minZ least p.1) p.2 m1.1 h2
  have e : altLeast f least p = if f p.2 = -1 then minZ (if f p.1 = 1 then minZ least p.1 else least) p.2 else (if f p.1 = 1 then minZ least p.1 else least) := rfl
  obtain ⟨R, hR⟩ : ∃ R, R = altLeast f least p := ⟨_, rfl⟩
  rw [← hR] at e ⊢
  by_cases c1 : f p.1 = 1
  · by_cases c2 : f p.2 = -1
    · rw [if_pos c2, if_pos c1] at e; omega
    · rw [if_neg c2, if_pos c1] at e; omega
  · by_cases c2 : f p.2 = -1
    · rw [if_pos c2, if_neg c1] at e; omega
    · rw [if_neg c2, if_neg c1] at e; omega
theorem altGo_spec : ∀ (cr : List (Int × Int)) (f : Int → Int) (least : Int), (∀ p ∈ cr, 1 ≤ p.1 ∧ 1 ≤ p.2 ∧ p.1 ≠ p.2) → 0 ≤ least →
    (∀ s, 1 ≤ s → failGo s (f s) cr = true → altGo f least cr ≠ 0 ∧ altGo f least cr ≤ s) ∧ (least ≠ 0 → altGo f least cr ≠ 0 ∧ altGo f least cr ≤ least) ∧
    (altGo f least cr ≠ 0 → altGo f least cr = least ∨ (1 ≤ altGo f least cr ∧ failGo (altGo f least cr) (f (altGo f least cr)) cr = true))
  | [], f, least, _, _ => ⟨fun s _ h => by simp [failGo] at h, fun h => ⟨h, Int.le_refl _⟩, fun _ => .inl rfl⟩
  | p :: r, f, least, hp, h0 => by
    obtain ⟨p1, p2, p3⟩ := hp p (by simp)
    obtain ⟨a0, a1, a2, a3, a4⟩ := altLeast_spec f least p h0 p1 p2
    obtain ⟨i1, i2, i3⟩ := altGo_spec r (altLast f p) (altLeast f least p) (fun q hq => hp q (by simp [hq])) a0
    rw [altGo]
    obtain ⟨R, hR⟩ : ∃ R, R = altGo (altLast f p) (altLeast f least p) r := ⟨_, rfl⟩
    rw [← hR] at i1 i2 i3 ⊢
    refine ⟨fun s hs hf => ?_, fun hl => ?_, fun hne => ?_⟩
    · by_cases e1 : s = p.1
      · rw [fail_one p3 e1] at hf
        by_cases c : f s = 1
        · have := a2 (by rw [← e1]; exact c)
          have := i2 this.1
          omega
        · rw [if_neg c] at hf; exact i1 s hs hf
      · by_cases e2 : s = p.2
        · rw [fail_two p3 e2] at hf
          by_cases c : f s = -1
          · have := a3 (by rw [← e2]; exact c)
            have := i2 this.1
            omega
          · rw [if_neg c] at hf; exact i1 s hs hf
        · rw [fail_else e1 e2] at hf; exact i1 s hs hf
    · have := a1 hl
      have := i2 this.1
      omega
    · rcases i3 hne with h | ⟨h1, h2⟩
      · rcases a4 with h4 | ⟨h4, h5⟩ | ⟨h4, h5⟩
        · left; rw [h, h4]
        · right
          have e : R = p.1 := h.trans h4
          refine ⟨by omega, ?_⟩
          rw [fail_one p3 e, if_pos (by rw [e]; exact h5)]
        · right
          have e : R = p.2 := h.trans h4
          refine ⟨by omega, ?_⟩
          rw [fail_two p3 e, if_pos (by rw [e]; exact h5)]
      · right
        refine ⟨h1, ?_⟩
        by_cases e1 : R = p.1
        · rw [fail_one p3 e1]; split
          · rfl
          · exact h2
        · by_cases e2 : R = p.2
          · rw [fail_two p3 e2]; split
            · rfl
            · exact h2
          · rw [fail_else e1 e2]; exact h2
theorem fail_mem {s : Int} {n : Int} : ∀ (cr : List (Int × Int)) (last : Int), pairsOk n cr → failGo s last cr = true → 1 ≤ s ∧ s ≤ n
  | [], _, _, h => by simp [failGo] at h
  | p :: r, last, hp, h => by
    have hq := hp p (by simp)
    by_cases e : sideOf s p = 0
    · rw [failGo, e, if_neg (fun hh => hh.1 rfl), if_neg (fun hh => hh rfl)] at h
      exact fail_mem r last (fun q hq => hp q (by simp [hq])) h
    · unfold sideOf at e
      split at e
      · omega
      · split at e
        · omega
        · exact absurd rfl e
theorem alt_top {n : Int} {cr : List (Int × Int)} (hok : pairsOk n cr) :
    (altGo (fun _ => 0) 0 cr = 0 → ∀ s, 1 ≤ s → failGo s 0 cr = false) ∧
    (altGo (fun _ => 0) 0 cr ≠ 0 → 1 ≤ altGo (fun _ => 0) 0 cr ∧ altGo (fun _ => 0) 0 cr ≤ n ∧ failGo (altGo (fun _ => 0) 0 cr) 0 cr = true ∧ ∀ s, 1 ≤ s → s < altGo (fun _ => 0) 0 cr → failGo s 0 cr = false) := by
  obtain ⟨h1, _, h3⟩ := altGo_spec cr (fun _ => 0) 0 (fun p hp => by have := hok p hp; exact ⟨this.1, this.2.2.1, this.2.2.2.2⟩) (Int.le_refl _)
  refine ⟨fun h s hs => ?_, fun h => ?_⟩
  · cases hf : failGo s 0 cr
    · rfl
    · exact absurd h (h1 s hs hf).1
  · rcases h3 h with h4 | ⟨h4, h5⟩
    · exact absurd h4 h
    · refine ⟨h4, (fail_mem cr 0 hok h5).2, h5, fun s hs hl => ?_⟩
      cases hf : failGo s 0 cr
      · rfl
      · have := (h1 s hs hf).2; omega
/-- the strand that a search finds, or none. -/
theorem alt_found {n : Int} {cr : List (Int × Int)} (hok : pairsOk n cr) {s : Int} (h1 : 1 ≤ s) (hf : failGo s 0 cr = true) (hb : ∀ t, 1 ≤ t → t < s → failGo t 0 cr = false) : altGo (fun _ => 0) 0 cr = s := by
  obtain ⟨t1, t2⟩ := alt_top hok
  by_cases h : altGo (fun _ => 0) 0 cr = 0
  · have := t1 h s h1; rw [hf] at this; cases this
  · obtain ⟨u1, u2, u3, u4⟩ := t2 h
    rcases Int.lt_trichotomy s (altGo (fun _ => 0) 0 cr) with hl | he | hl
    · have := u4 s h1 hl; rw [hf] at this; cases this
    · exact he.symm
    · have := hb _ u1 hl; rw [u3] at this; cases this
theorem alt_none {n : Int} {cr : List (Int × Int)} (hok : pairsOk n cr) (hb : ∀ t, 1 ≤ t → t ≤ n → failGo t 0 cr = false) : altGo (fun _ => 0) 0 cr = 0 := by
  obtain ⟨_, t2⟩ := alt_top hok
  by_cases h : altGo (fun _ => 0) 0 cr = 0
  · exact h
  · obtain ⟨u1, u2, u3, _⟩ := t2 h
    have := hb _ u1 u2; rw [u3] at this; cases this
theorem failGo_step {s last : Int} {cr : List (Int × Int)} {k : Nat} (h : k < cr.length) : failGo s last (cr.drop k) = if sideOf s (atD (0, 0) cr k) ≠ 0 ∧ sideOf s (atD (0, 0) cr k) = last then true else failGo s (if sideOf s (atD (0, 0) cr k) ≠ 0 then sideOf s (atD (0, 0) cr k) else last) (cr.drop (k + 1)) := by
  have e : atD (0, 0) cr k = cr[k] := by simp [atD, h]
  rw [List.drop_eq_getElem_cons h, failGo, e]
theorem fail_next {s la : Int} {C : List (Int × Int)} {j : Nat} {T : Bool} (hj : j < C.length) (hgo : failGo s la (C.drop j) = T) {v : Int} (hv : sideOf s (atD (0, 0) C j) = v) :
    (v ≠ 0 ∧ v = la → T = true) ∧ (¬ (v ≠ 0 ∧ v = la) → failGo s (if v ≠ 0 then v else la) (C.drop (j + 1)) = T) := by
  rw [failGo_step hj, hv] at hgo
  constructor
  · intro h; rw [if_pos h] at hgo; exact hgo.symm
  · intro h; rw [if_neg h] at hgo; exact hgo
end Go.Proofs.YtogbclcnmogaeaaGreatDoor
