/- Plain facts on replays: legal moves alone, moves undone, stands turned. No condition. -/
import Derived.Test.YtmomeggnegcheaaGreatDoorCiA
import Derived.Test.YtmomeggnegcheaaGreatDoorRyA
import Derived.Maps.Ext
import Derived.Maps.RangeWalk
import Derived.Maps.OwnSet
set_option linter.all false
namespace Go.Proofs.YtmomeggnegcheaaGreatDoor
open Go.RowKit
set_option maxHeartbeats 1000000
set_option maxRecDepth 100000

/-- the moves that were not set aside. -/
def legalSub : List Int → List (Int × Int) → List (Int × Int)
  | _, [] => []
  | s, m :: r => if legalN s m.1 m.2 = 0 then m :: legalSub (nextL s m.1 m.2) r else legalSub s r
theorem legalSub_ok : ∀ (l : List (Int × Int)) (s : List Int), okAll s (legalSub s l)
  | [], _ => trivial
  | m :: r, s => by
    rw [legalSub]
    split
    · exact ⟨‹_›, legalSub_ok r _⟩
    · exact legalSub_ok r s
theorem legalSub_run : ∀ (l : List (Int × Int)) (s : List Int) (k : Nat) (ac : List (Int × Int)), (replayGo s l k ac).1 = runL s (legalSub s l)
  | [], _, _, _ => rfl
  | m :: r, s, k, ac => by
    rw [replayGo, legalSub]
    split
    · rw [runL]; exact legalSub_run r _ _ _
    · exact legalSub_run r s _ _
theorem legalSub_len : ∀ (l : List (Int × Int)) (s : List Int), (legalSub s l).length ≤ l.length
  | [], _ => Nat.le_refl _
  | m :: r, s => by
    rw [legalSub]
    split
    · have := legalSub_len r (nextL s m.1 m.2); simp; omega
    · have := legalSub_len r s; simp; omega
theorem replayGo_acc : ∀ (l : List (Int × Int)) (s : List Int) (k : Nat) (ac : List (Int × Int)), (replayGo s l k ac).2 = ac ++ (replayGo s l k []).2
  | [], s, k, ac => by simp [replayGo]
  | m :: r, s, k, ac => by
    rw [replayGo, replayGo]
    split
    · exact replayGo_acc r _ _ _
    · rw [replayGo_acc r s (k + 1) (ac ++ _), replayGo_acc r s (k + 1) ([] ++ _)]; simp
theorem replayGo_num : ∀ (l : List (Int × Int)) (s : List Int) (k : Nat), ∀ x ∈ (replayGo s l k []).2, (k : Int) + 1 ≤ x.1
  | [], s, k, x, hx => by simp [replayGo] at hx
  | m :: r, s, k, x, hx => by
    rw [replayGo] at hx
    split at hx
    · have := replayGo_num r _ _ x hx; omega
    · rw [replayGo_acc] at hx
      rcases List.mem_append.1 hx with hx | hx
      · simp only [List.nil_append, List.mem_singleton] at hx
        subst hx; exact Int.le_refl _
      · have := replayGo_num r _ _ x hx; omega

/-! undone -/
theorem sw_comm (f t j : Int) : sw f t j = sw t f j := by
  unfold sw
  by_cases a : j = f <;> by_cases b : j = t <;> simp_all
theorem legal_back {s : List Int} {f t : Int} (h : legalN s f t = 0) : legalN (nextL s f t) t f = 0 ∧ nextL (nextL s f t) t f = s := by
  obtain ⟨hf, ht, hf0, ht0⟩ := legalN_iff.1 h
  have hl : legalN (nextL s f t) t f = 0 := by
    refine legalN_iff.2 ⟨by rw [nextL_length]; exact ht, by rw [nextL_length]; exact hf, ?_, ?_⟩
    · rw [nextL_at h ht.1, sw_comm]; unfold sw; rw [if_pos rfl]; exact hf0
    · rw [nextL_at h hf.1]; unfold sw; rw [if_pos rfl]; exact ht0
  refine ⟨hl, ext_atD (by rw [nextL_length, nextL_length]) (fun j j0 j1 => ?_)⟩
  rw [nextL_length, nextL_length] at j1
  obtain ⟨a, _⟩ := sw_rng ht hf ⟨j0, j1⟩
  rw [nextL_at hl j0, nextL_at h a, sw_comm t f, sw_sw]
theorem runL_app : ∀ (a b : List (Int × Int)) (s : List Int), runL s (a ++ b) = runL (runL s a) b
  | [], _, _ => rfl
  | m :: r, b, s => by rw [List.cons_append, runL, runL]; exact runL_app r b _
theorem okAll_app : ∀ (a b : List (Int × Int)) (s : List Int), okAll s (a ++ b) ↔ okAll s a ∧ okAll (runL s a) b
  | [], b, s => by simp [okAll, runL]
  | m :: r, b, s => by rw [List.cons_append, okAll, okAll, runL, okAll_app r b, and_assoc]

theorem undo_back : ∀ (ms : List (Int × Int)) (s : List Int), okAll s ms → okAll (runL s ms) (undoL ms) ∧ runL (runL s ms) (undoL ms) = s
  | [], s, _ => ⟨trivial, rfl⟩
  | m :: r, s, h => by
    obtain ⟨a, b⟩ := undo_back r _ h.2
    obtain ⟨c, d⟩ := legal_back h.1
    have e : undoL (m :: r) = undoL r ++ [(m.2, m.1)] := by simp [undoL]
    rw [e, runL, okAll_app, runL_app, b]
    exact ⟨⟨a, c, trivial⟩, d⟩

/-! turned -/
def turnM (n b : Int) (m : Int × Int) : Int × Int := ((m.1 + b) % n, (m.2 + b) % n)
theorem turn_at {s : List Int} {b j : Int} (hn : 0 < s.length) (j0 : 0 ≤ j) (j1 : j < s.length) : atD 0 (turnedL s b) ((j + b) % s.length) = atD 0 s j := by
  have h0 := Int.emod_nonneg (j + b) (by omega : (s.length : Int) ≠ 0)
  have h1 := Int.emod_lt_of_pos (j + b) (by omega : 0 < (s.length : Int))
  rw [atD_turned h0 h1]
  have := (emod_shift (n := s.length) (b := b) j0 j1 h0 h1).1 rfl
  rw [← this]
theorem turn_legal {s : List Int} {b f t : Int} (h : legalN s f t = 0) : legalN (turnedL s b) ((f + b) % s.length) ((t + b) % s.length) = 0 := by
  obtain ⟨hf, ht, hf0, ht0⟩ := legalN_iff.1 h
  have hn : 0 < s.length := by omega
  refine legalN_iff.2 ⟨?_, ?_, ?_, ?_⟩
  · rw [turnedL_len]; exact ⟨Int.emod_nonneg _ (by omega), Int.emod_lt_of_pos _ (by omega)⟩
  · rw [turnedL_len]; exact ⟨Int.emod_nonneg _ (by omega), Int.emod_lt_of_pos _ (by omega)⟩
  · rw [turn_at hn hf.1 hf.2]; exact hf0
  · rw [turn_at hn ht.1 ht.2]; exact ht0
theorem turn_next {s : List Int} {b f t : Int} (h : legalN s f t = 0) : nextL (turnedL s b) ((f + b) % s.length) ((t + b) % s.length) = turnedL (nextL s f t) b := by
  obtain ⟨hf, ht, _, _⟩ := legalN_iff.1 h
  have hn : 0 < s.length := by omega
  refine ext_atD (by rw [nextL_length, turnedL_len, turnedL_len, nextL_length]) (fun j j0 j1 => ?_)
  rw [nextL_length, turnedL_len] at j1
  have hl := turn_legal (b := b) h
  have i0 := Int.emod_nonneg (j - b) (by omega : (s.length : Int) ≠ 0)
  have i1 := Int.emod_lt_of_pos (j - b) (by omega : 0 < (s.length : Int))
  have ej : ∀ x : Int, 0 ≤ x → x < s.length → ((x + b) % s.length = j ↔ x = (j - b) % s.length) := fun x x0 x1 => emod_shift x0 x1 j0 j1
  rw [nextL_at hl j0, atD_turned j0 (by rw [nextL_length]; exact j1), nextL_length, nextL_at h i0]
  have q1 : (j = (f + b) % s.length) = ((j - b) % s.length = f) := propext ⟨fun h => ((ej f hf.1 hf.2).1 h.symm).symm, fun h => ((ej f hf.1 hf.2).2 h.symm).symm⟩
  have q2 : (j = (t + b) % s.length) = ((j - b) % s.length = t) := propext ⟨fun h => ((ej t ht.1 ht.2).1 h.symm).symm, fun h => ((ej t ht.1 ht.2).2 h.symm).symm⟩
  unfold sw
  simp only [q1, q2]
  by_cases a : (j - b) % s.length = f
  · rw [if_pos a, if_pos a, turn_at hn ht.1 ht.2]
  · rw [if_neg a, if_neg a]
    by_cases c : (j - b) % s.length = t
    · rw [if_pos c, if_pos c, turn_at hn hf.1 hf.2]
    · rw [if_neg c, if_neg c, atD_turned j0 j1]
theorem turn_run (b : Int) : ∀ (ms : List (Int × Int)) (s : List Int), okAll s ms → okAll (turnedL s b) (ms.map (turnM s.length b)) ∧ runL (turnedL s b) (ms.map (turnM s.length b)) = turnedL (runL s ms) b
  | [], s, _ => ⟨trivial, rfl⟩
  | m :: r, s, h => by
    have ih := turn_run b r _ h.2
    rw [nextL_length] at ih
    rw [List.map_cons, okAll, runL, runL, turnM]
    simp only
    rw [turn_next h.1]
    exact ⟨⟨turn_legal h.1, ih.1⟩, ih.2⟩
theorem turn_stand {s : List Int} {b : Int} (h : Stand s) : Stand (turnedL s b) := by
  have hn : 0 < s.length := by have := h.lo; omega
  have key : ∀ j : Int, 0 ≤ j → j < s.length → 0 ≤ (j - b) % s.length ∧ (j - b) % s.length < s.length := fun j _ _ => ⟨Int.emod_nonneg _ (by omega), Int.emod_lt_of_pos _ (by omega)⟩
  refine ⟨by rw [turnedL_len]; exact h.lo, by rw [turnedL_len]; exact h.hi, ?_, ?_⟩
  · intro x hx
    obtain ⟨i, hi, rfl⟩ := List.mem_iff_getElem.1 hx
    have e : (turnedL s b)[i] = atD 0 (turnedL s b) (i : Int) := by simp [atD, hi]
    rw [turnedL_len] at hi
    rw [e, atD_turned (by omega) (by omega)]
    obtain ⟨a, c⟩ := key i (by omega) (by omega)
    exact h.rng _ (atD_memZ a c)
  · intro i j i0 i1 j0 j1 hne e
    rw [turnedL_len] at i1 j1
    rw [atD_turned i0 i1] at hne e
    rw [atD_turned j0 j1] at e
    obtain ⟨a, c⟩ := key i i0 i1
    obtain ⟨a2, c2⟩ := key j j0 j1
    have := h.ne _ _ a c a2 c2 hne e
    have e1 := (emod_shift (n := s.length) (b := b) a c i0 i1).2 rfl
    have e2 := (emod_shift (n := s.length) (b := b) a2 c2 j0 j1).2 rfl
    rw [← e1, ← e2, this]

/-! numbers counted in a map -/
theorem count_next {l : List Int} {f t : Int} (h : legalN l f t = 0) (x : Int) : (nextL l f t).count x = l.count x := by
  obtain ⟨hf, ht, hf0, ht0⟩ := legalN_iff.1 h
  have hft : f ≠ t := fun e => by rw [e] at hf0; exact hf0 ht0
  have hfn : f.toNat < l.length := by omega
  have htn : t.toNat < l.length := by omega
  have hne : t.toNat ≠ f.toNat := by omega
  have ef : atD 0 l f = l[f.toNat] := by simp [atD, hfn]
  have et : l[t.toNat] = 0 := by have : atD 0 l t = l[t.toNat] := by simp [atD, htn]
                                 rw [← this]; exact ht0
  unfold nextL
  rw [List.count_set (by simpa using hfn), List.count_set htn, List.getElem_set_ne hne (by simpa using hfn), et, ef]
  have hc : 0 ∈ l := et ▸ List.getElem_mem htn
  have hc2 : l[f.toNat] ∈ l := List.getElem_mem hfn
  by_cases a : (0 : Int) = x
  · subst a
    have := List.count_pos_iff.2 hc
    have h2 : (l[f.toNat] == 0) = false := by rw [← ef]; simpa using hf0
    simp [h2]; omega
  · by_cases b : l[f.toNat] = x
    · subst b; simp [a]
    · simp [a, b]
theorem count_run (x : Int) : ∀ (ms : List (Int × Int)) (s : List Int), okAll s ms → (runL s ms).count x = s.count x
  | [], _, _ => rfl
  | m :: r, s, h => by rw [runL, count_run x r _ h.2, count_next h.1]

open Go.Maps in
/-- the map counts the numbers of the list. -/
structure CntD (D : DataW Unit) (l : List Int) : Prop where
  map : IsMap D
  key : ∀ kl, has D kl = true ↔ ∃ x ∈ l, kl = .int .i64 x
  cnt : ∀ x ∈ l, ∀ z, D.atKey (.int .i64 x) z = .lit (.int .i64 (l.count x))
open Go.Maps in
theorem cntD_nil : CntD (.map []) [] := ⟨isMap_empty, fun kl => by simp [has_eq], fun x hx => by simp at hx⟩
open Go.Maps in
theorem CntD.at0 {D : DataW Unit} {l : List Int} (h : CntD D l) (x : Int) : D.atKey (.int .i64 x) (.lit (.int .i64 0)) = .lit (.int .i64 (l.count x)) := by
  by_cases hx : x ∈ l
  · exact h.cnt x hx _
  · have hn : has D (.int .i64 x) = false := by
      cases e : has D (.int .i64 x)
      · rfl
      · obtain ⟨y, hy, e2⟩ := (h.key _).1 e
        cases e2; exact absurd hy hx
    rw [atKey_of_not_has hn, List.count_eq_zero.2 hx]; rfl
open Go.Maps in
theorem CntD.step {D : DataW Unit} {l : List Int} (h : CntD D l) {x : Int} (hk : WideAt.IsKeyLit (.int .i64 x)) : CntD (D.put (.int .i64 x) (.lit (.int .i64 ((l.count x : Int) + 1)))) (l ++ [x]) := by
  refine ⟨h.map.put _ _, fun kl => ?_, fun y hy z => ?_⟩
  · by_cases e : kl = .int .i64 x
    · subst e
      rw [has_put_same h.map hk]
      simp
    · rw [has_put_other e, h.key]
      constructor
      · rintro ⟨y, hy, rfl⟩; exact ⟨y, by simp [hy], rfl⟩
      · rintro ⟨y, hy, rfl⟩
        rcases List.mem_append.1 hy with hy | hy
        · exact ⟨y, hy, rfl⟩
        · simp only [List.mem_singleton] at hy
          subst hy; exact absurd rfl e
  · by_cases e : y = x
    · subst e
      rw [atKey_put_same h.map hk]
      simp
    · have hy2 : y ∈ l := by
        rcases List.mem_append.1 hy with hy | hy
        · exact hy
        · simp only [List.mem_singleton] at hy; exact absurd hy e
      rw [atKey_put_other (fun e2 => e (by cases e2; rfl)), h.cnt y hy2]
      have : ([x] : List Int).count y = 0 := List.count_eq_zero.2 (by simpa using e)
      rw [List.count_append, this, Nat.add_zero]
open Go.Maps in
theorem CntD.same {D E : DataW Unit} {l m : List Int} (h : CntD D l) (k : CntD E m) (cD : Canon D) (cE : Canon E) (hc : ∀ x, m.count x = l.count x) : D = E := by
  have hm : ∀ x, x ∈ l ↔ x ∈ m := fun x => by rw [← List.count_pos_iff, ← List.count_pos_iff, hc]
  have hh : ∀ kl, has D kl = has E kl := fun kl => by
    rw [Bool.eq_iff_iff, h.key, k.key]
    constructor
    · rintro ⟨x, a, b⟩; exact ⟨x, (hm x).1 a, b⟩
    · rintro ⟨x, a, b⟩; exact ⟨x, (hm x).2 a, b⟩
  refine ext cD cE hh (fun kl z hk => ?_)
  obtain ⟨x, hx, rfl⟩ := (h.key kl).1 hk
  rw [h.cnt x hx, k.cnt x ((hm x).1 hx), hc]
end Go.Proofs.YtmomeggnegcheaaGreatDoor
