/- Contract: CheckPerm. Conditions: the slice can be read; its numbers fit an int. Plain facts on permutations as lists of numbers: orbits, cycles, and the period. No condition beyond each statement's own. -/
import Derived.Test.YtmomeggnegcheaaGreatDoorPlA
set_option linter.all false
/- Contract: CheckPerm. Conditions: the slice can be read; its numbers fit an int. -/
namespace Go.Proofs.YtmomeggnegcheaaGreatDoor
open Go.RowKit
set_option maxHeartbeats 400000
set_option maxRecDepth 100000

def permGo (n : Nat) : List Int → List Int → Int
  | _, [] => 0
  | seen, x :: r => if x < 0 ∨ n ≤ x ∨ x ∈ seen then 15 else permGo n (seen ++ [x]) r
def permE (l : List Int) : Int := if 256 < l.length then 5 else permGo l.length [] l

theorem permGo_step (n : Nat) (l : List Int) (k : Nat) (h : k < l.length) : permGo n (l.take k) (l.drop k) =
    if atD 0 l k < 0 ∨ n ≤ atD 0 l k ∨ atD 0 l k ∈ l.take k then 15 else permGo n (l.take (k + 1)) (l.drop (k + 1)) := by
  have e : l.drop k = l[k] :: l.drop (k + 1) := List.drop_eq_getElem_cons h
  have e2 : atD 0 l k = l[k] := by simp [atD, h]
  rw [e, e2, permGo, List.take_succ_eq_append_getElem h]

theorem CheckPerm_any (a : Option Addr) (cap : Nat) (l : List Int) (w : World) (hS : Ints w a cap l) (hI : ∀ x ∈ l, InI x) :
    Calls Tryz.prog 100 #[.slice a l.length cap] w fun r w' => r = .returned (.int .i64 (permE l)) ∧ Below w.heap.size w w' := by
  have hcap := hS.le
  have hm := hS.max
  have hmm := @run_makeMap Tryz.prog
  by_cases h64 : 256 < l.length
  · have hs : permE l = 5 := by simp [permE, h64]
    have HS := hid hs; clear hs
    go_enter Tryz.func100, Tryz.ntmps100
    go_wp2
    go_ret
    exact ⟨by rw [HS.out]; rfl, Below.refl _ _⟩
  have hs : permE l = permGo l.length [] l := by simp [permE, h64]
  have HS := hid hs; clear hs
  go_enter Tryz.func100, Tryz.ntmps100
  go_wp2
  go_loopw [5, 12] (fun _ i wr => ∃ k : Nat, k ≤ l.length ∧ i = .int .i64 k ∧ MapB wr w.heap.size k (fun x => decide (x ∈ l.take k)) ∧ Below w.heap.size w wr ∧ permGo l.length (l.take k) (l.drop k) = permE l) (fun _ i _ => l.length - (intOf i).toNat)
  case atStart =>
    refine ⟨0, by omega, rfl, ?_, bal (Below.refl _ _) _, by simp [HS.out]⟩
    have := mapB_made w
    simpa using this
  case round =>
    obtain ⟨k, hk, rfl, hmap, hb, hgo⟩ := hrel
    have hmlt := hmap.lt
    have hR := hS.below hb
    have hnk : k < maxLen := by unfold maxLen; omega
    by_cases hlt : k < l.length
    · have hstep := permGo_step l.length l k hlt
      have hin : InI (atD 0 l k) := hI _ (by simp [atD, hlt])
      rw [hgo] at hstep
      have hT : l.take (k + 1) = l.take k ++ [atD 0 l k] := by rw [List.take_succ_eq_append_getElem hlt]; simp [atD, hlt]
      have HT := hid hT; clear hT
      have HG := hid hgo; clear hgo
      have HT2 := hid hstep; clear hstep
      have HI := hid hin; clear hin
      by_cases c1 : atD 0 l k < 0
      · go_wp2_with (first | (with_reducible refine wpList_idx _ 0 E_ints F_int cInt1 (by with_unfolding_all rfl) (by with_unfolding_all rfl) (hR) (by first | omega | (simp; done)) (by first | omega | (simp; done)) (fun _ => by with_unfolding_all rfl) (fun _ => ?_)) | (with_reducible refine wpList_lookB (by with_unfolding_all rfl) (by with_unfolding_all rfl) (hmap) (HI.out) (by with_unfolding_all rfl) ?_))
        all_goals
          go_ret
          exact ⟨by rw [HT2.out, if_pos (.inl c1)]; rfl, hb⟩
      by_cases c2 : (l.length : Int) ≤ atD 0 l k
      · go_wp2_with (first | (with_reducible refine wpList_idx _ 0 E_ints F_int cInt1 (by with_unfolding_all rfl) (by with_unfolding_all rfl) (hR) (by first | omega | (simp; done)) (by first | omega | (simp; done)) (fun _ => by with_unfolding_all rfl) (fun _ => ?_)) | (with_reducible refine wpList_lookB (by with_unfolding_all rfl) (by with_unfolding_all rfl) (hmap) (HI.out) (by with_unfolding_all rfl) ?_))
        all_goals
          go_ret
          exact ⟨by rw [HT2.out, if_pos (.inr (.inl c2))]; rfl, hb⟩
      by_cases c4 : atD 0 l k ∈ l.take k
      · have hd : decide (atD 0 l k ∈ l.take k) = true := by simpa using c4
        have HC := hid c4; clear c4
        go_wp2_with (first | (with_reducible refine wpList_idx _ 0 E_ints F_int cInt1 (by with_unfolding_all rfl) (by with_unfolding_all rfl) (hR) (by first | omega | (simp; done)) (by first | omega | (simp; done)) (fun _ => by with_unfolding_all rfl) (fun _ => ?_)) | (with_reducible refine wpList_lookB (by with_unfolding_all rfl) (by with_unfolding_all rfl) (hmap) (HI.out) (by with_unfolding_all rfl) ?_))
        go_ret
        exact ⟨by rw [HT2.out, if_pos (.inr (.inr HC.out))]; rfl, hb⟩
      · have hd : decide (atD 0 l k ∈ l.take k) = false := by simpa using c4
        have HC := hid c4; clear c4
        go_wp2_with (first | (with_reducible refine wpList_idx _ 0 E_ints F_int cInt1 (by with_unfolding_all rfl) (by with_unfolding_all rfl) (hR) (by first | omega | (simp; done)) (by first | omega | (simp; done)) (fun _ => by with_unfolding_all rfl) (fun _ => ?_)) | (with_reducible refine wpList_lookB (by with_unfolding_all rfl) (by with_unfolding_all rfl) (hmap) (HI.out) (by with_unfolding_all rfl) ?_) | ((with_reducible refine wpList_putB (by with_unfolding_all rfl) (by with_unfolding_all rfl) (by with_unfolding_all rfl) (hmap) (HI.out) (hnk) ?_); intro w1 hm1 hg1))
        have e : (fun x => if x = atD 0 l k then true else decide (x ∈ l.take k)) = (fun x => decide (x ∈ l.take (k + 1))) := by
          funext x
          rw [HT.out]
          by_cases e : x = atD 0 l k <;> simp [e]
        rw [e] at hm1
        go_roundw
        case rel => exact ⟨k + 1, by omega, by go_num, hm1, hb.grown hg1 hb.size (fun j hj => by cases hj; omega), by rw [HT2.out, if_neg (by rintro (h | h | h); exact c1 h; exact c2 h; exact HC.out h)]⟩
        case measure => simp [intOf]; omega
    · have : k = l.length := by omega
      subst this
      have e : permGo l.length (l.take l.length) (l.drop l.length) = 0 := by simp [permGo]
      rw [e] at hgo
      have HG := hid hgo; clear hgo e
      go_wp2
      go_ret
      exact ⟨by rw [← HG.out]; rfl, hb⟩
end Go.Proofs.YtmomeggnegcheaaGreatDoor

/- Plain facts on permutations as lists of numbers: orbits, cycles, and the period. No condition beyond each statement's own. -/
namespace Go.Proofs.YtmomeggnegcheaaGreatDoor
open Go.RowKit

theorem php : ∀ (n : Nat) (f : Nat → Nat), (∀ k, k ≤ n → f k < n) → ∃ a b, a < b ∧ b ≤ n ∧ f a = f b
  | 0, f, h => absurd (h 0 (Nat.le_refl _)) (by omega)
  | n + 1, f, h => by
    by_cases hex : ∃ a, a ≤ n ∧ f a = f (n + 1)
    · obtain ⟨a, ha, e⟩ := hex
      exact ⟨a, n + 1, by omega, by omega, e⟩
    · have hne : ∀ a, a ≤ n → f a ≠ f (n + 1) := fun a ha e => hex ⟨a, ha, e⟩
      obtain ⟨a, b, h1, h2, h3⟩ := php n (fun k => if f (n + 1) < f k then f k - 1 else f k) (fun k hk => by
        have h1 := h k (by omega); have h2 := h (n + 1) (by omega); have h3 := hne k hk
        split <;> omega)
      refine ⟨a, b, h1, by omega, ?_⟩
      have ha := hne a (by omega); have hb := hne b h2
      split at h3 <;> split at h3 <;> omega

theorem nodup_ne {l : List Int} (h : l.Nodup) {a b : Nat} (hab : a < b) (hb : b < l.length) : atD 0 l a ≠ atD 0 l b := by
  have := (List.pairwise_iff_getElem.1 h) a b (by omega) hb hab
  simpa [atD, hb, show a < l.length by omega] using this

theorem nodup_le (n : Nat) (l : List Int) (hn : l.Nodup) (hr : ∀ x ∈ l, 0 ≤ x ∧ x < n) : l.length ≤ n := by
  rcases Nat.lt_or_ge n l.length with h | h
  · obtain ⟨a, b, h1, h2, h3⟩ := php n (fun k => (atD 0 l k).toNat) (fun k hk => by
      have := hr (atD 0 l k) (by simp [atD, show k < l.length by omega])
      omega)
    have ha := hr (atD 0 l a) (by simp [atD, show a < l.length by omega])
    have hb := hr (atD 0 l b) (by simp [atD, show b < l.length by omega])
    exact absurd (by omega) (nodup_ne hn h1 (by omega))
  · exact h

/-- a permutation of 0 .. n - 1. -/
structure IsP (p : List Int) : Prop where
  rng : ∀ x : Int, 0 ≤ x → x < p.length → 0 ≤ atD 0 p x ∧ atD 0 p x < p.length
  inj : ∀ x y : Int, 0 ≤ x → x < p.length → 0 ≤ y → y < p.length → atD 0 p x = atD 0 p y → x = y

theorem permGo_zero (n : Nat) : ∀ (r seen : List Int), permGo n seen r = 0 → (∀ x ∈ r, 0 ≤ x ∧ x < n ∧ x ∉ seen) ∧ r.Nodup
  | [], _, _ => by simp
  | x :: r, seen, h => by
    rw [permGo] at h
    split at h
    · omega
    · rename_i hc
      obtain ⟨h1, h2⟩ := permGo_zero n r _ h
      have hx : 0 ≤ x ∧ x < n ∧ x ∉ seen := ⟨by omega, by omega, fun e => hc (.inr (.inr e))⟩
      refine ⟨fun y hy => ?_, List.nodup_cons.2 ⟨fun e => (h1 x e).2.2 (by simp), h2⟩⟩
      rcases List.mem_cons.1 hy with rfl | hy
      · exact hx
      · obtain ⟨a, b, c⟩ := h1 y hy
        exact ⟨a, b, fun e => c (List.mem_append_left _ e)⟩

theorem permE_zero {p : List Int} (h : permE p = 0) : p.length ≤ 256 ∧ (∀ x ∈ p, 0 ≤ x ∧ x < p.length) ∧ p.Nodup := by
  unfold permE at h
  split at h
  · omega
  · obtain ⟨h1, h2⟩ := permGo_zero _ _ _ h
    exact ⟨by omega, fun x hx => ⟨(h1 x hx).1, (h1 x hx).2.1⟩, h2⟩

theorem atD_memZ {l : List Int} {x : Int} (h0 : 0 ≤ x) (h1 : x < l.length) : atD 0 l x ∈ l := by
  have : x.toNat < l.length := by omega
  simp [atD, this]

theorem isP_of {p : List Int} (h : permE p = 0) : IsP p := by
  obtain ⟨_, h1, h2⟩ := permE_zero h
  refine ⟨fun x a b => h1 _ (atD_memZ a b), fun x y a b c d e => ?_⟩
  have ex : atD 0 p x = atD 0 p (x.toNat : Int) := by rw [Int.toNat_of_nonneg a]
  have ey : atD 0 p y = atD 0 p (y.toNat : Int) := by rw [Int.toNat_of_nonneg c]
  rw [ex, ey] at e
  rcases Nat.lt_trichotomy x.toNat y.toNat with k | k | k
  · exact absurd e (nodup_ne h2 k (by omega))
  · omega
  · exact absurd e.symm (nodup_ne h2 k (by omega))

def itP (p : List Int) (i : Int) : Nat → Int
  | 0 => i
  | k + 1 => atD 0 p (itP p i k)
theorem itP_add (p : List Int) (i : Int) (b : Nat) : ∀ a : Nat, itP p i (a + b) = itP p (itP p i b) a
  | 0 => by simp [itP]
  | a + 1 => by
    have : a + 1 + b = (a + b) + 1 := by omega
    rw [this, itP, itP, itP_add p i b a]

section
variable {p : List Int} (hp : IsP p)
include hp
theorem itP_rng {i : Int} (h0 : 0 ≤ i) (h1 : i < p.length) : ∀ k, 0 ≤ itP p i k ∧ itP p i k < p.length
  | 0 => ⟨h0, h1⟩
  | k + 1 => hp.rng _ (itP_rng h0 h1 k).1 (itP_rng h0 h1 k).2
theorem itP_inj {x y : Int} (hx : 0 ≤ x) (hx1 : x < p.length) (hy : 0 ≤ y) (hy1 : y < p.length) : ∀ k, itP p x k = itP p y k → x = y
  | 0, h => h
  | k + 1, h => itP_inj hx hx1 hy hy1 k (hp.inj _ _ (itP_rng hp hx hx1 k).1 (itP_rng hp hx hx1 k).2 (itP_rng hp hy hy1 k).1 (itP_rng hp hy hy1 k).2 h)
theorem itP_back {i : Int} (h0 : 0 ≤ i) (h1 : i < p.length) : ∃ d, 0 < d ∧ d ≤ p.length ∧ itP p i d = i := by
  obtain ⟨a, b, hab, hb, he⟩ := php p.length (fun k => (itP p i k).toNat) (fun k _ => by have := itP_rng hp h0 h1 k; omega)
  have ra := itP_rng hp h0 h1 a
  have rb := itP_rng hp h0 h1 b
  have e : itP p i a = itP p i b := by omega
  have e2 : itP p i b = itP p (itP p i (b - a)) a := by rw [← itP_add]; congr 1; omega
  rw [e2] at e
  have rd := itP_rng hp h0 h1 (b - a)
  exact ⟨b - a, by omega, by omega, (itP_inj hp h0 h1 rd.1 rd.2 a e).symm⟩
end

theorem leastN (q : Nat → Prop) : ∀ d, q d → ∃ m, m ≤ d ∧ q m ∧ ∀ j, j < m → ¬ q j := by
  intro d
  induction d using Nat.strongRecOn with
  | _ d ih =>
    intro h
    by_cases hex : ∃ j, j < d ∧ q j
    · obtain ⟨j, hj, hq⟩ := hex
      obtain ⟨m, h1, h2, h3⟩ := ih j hj hq
      exact ⟨m, by omega, h2, h3⟩
    · exact ⟨d, Nat.le_refl _, h, fun j hj hq => hex ⟨j, hj, hq⟩⟩

/-- d is the least number of steps above 0 after which i comes again. -/
structure Ord (p : List Int) (i : Int) (d : Nat) : Prop where
  pos : 0 < d
  le : d ≤ p.length
  back : itP p i d = i
  min : ∀ j, 0 < j → j < d → itP p i j ≠ i

theorem ord_ex {p : List Int} (hp : IsP p) {i : Int} (h0 : 0 ≤ i) (h1 : i < p.length) : ∃ d, Ord p i d := by
  obtain ⟨d, a, b, c⟩ := itP_back hp h0 h1
  obtain ⟨m, h2, ⟨h3, h4⟩, h5⟩ := leastN (fun d => 0 < d ∧ itP p i d = i) d ⟨a, c⟩
  exact ⟨m, h3, by omega, h4, fun j hj hjm e => h5 j hjm ⟨hj, e⟩⟩

def orbGo (p : List Int) (i : Int) : Nat → Int → List Int
  | 0, _ => []
  | f + 1, x => x :: (if atD 0 p x = i then [] else orbGo p i f (atD 0 p x))
def orb (p : List Int) (i : Int) : List Int := orbGo p i p.length i

theorem orbGo_eq {p : List Int} {i : Int} {d : Nat} (h : Ord p i d) : ∀ (f k : Nat), k < d → d ≤ k + f → orbGo p i f (itP p i k) = (List.range' k (d - k)).map (itP p i)
  | 0, k, h1, h2 => by omega
  | f + 1, k, h1, h2 => by
    rw [orbGo]
    have e : d - k = (d - (k + 1)) + 1 := by omega
    rw [e, List.range'_succ, List.map_cons]
    congr 1
    by_cases hk : k + 1 = d
    · have e2 : atD 0 p (itP p i k) = i := by have := h.back; rw [← hk] at this; exact this
      rw [if_pos e2, hk]; simp
    · have hne : atD 0 p (itP p i k) ≠ i := h.min (k + 1) (by omega) (by omega)
      rw [if_neg hne]
      exact orbGo_eq h f (k + 1) (by omega) (by omega)
theorem orb_eq {p : List Int} {i : Int} {d : Nat} (h : Ord p i d) : orb p i = (List.range d).map (itP p i) := by
  have := orbGo_eq h p.length 0 h.pos (by have := h.le; omega)
  rw [orb, List.range_eq_range']; simpa [itP] using this
theorem orb_len {p : List Int} {i : Int} {d : Nat} (h : Ord p i d) : (orb p i).length = d := by rw [orb_eq h]; simp

theorem orb_nodup {p : List Int} (hp : IsP p) {i : Int} (h0 : 0 ≤ i) (h1 : i < p.length) {d : Nat} (h : Ord p i d) : (orb p i).Nodup := by
  rw [orb_eq h, List.Nodup, List.pairwise_map, List.pairwise_iff_getElem]
  intro a b ha hb hab
  simp at ha hb ⊢
  intro e
  have e2 : itP p i b = itP p (itP p i (b - a)) a := by rw [← itP_add]; congr 1; omega
  rw [e2] at e
  have rd := itP_rng hp h0 h1 (b - a)
  exact h.min (b - a) (by omega) (by omega) (itP_inj hp h0 h1 rd.1 rd.2 a e).symm

/-- the cycles that the first k places have. -/
def cycK (p : List Int) : Nat → List (List Int)
  | 0 => []
  | k + 1 => if (k : Int) ∈ (cycK p k).flatten then cycK p k else cycK p k ++ [orb p k]

theorem cycK_ok {p : List Int} (hp : IsP p) : ∀ k, k ≤ p.length → (cycK p k).flatten.Nodup ∧ (∀ x ∈ (cycK p k).flatten, 0 ≤ x ∧ x < p.length) ∧ (∀ x ∈ (cycK p k).flatten, atD 0 p x ∈ (cycK p k).flatten)
  | 0, _ => by simp [cycK]
  | k + 1, hk => by
    obtain ⟨h1, h2, h3⟩ := cycK_ok hp k (by omega)
    rw [cycK]
    split
    · exact ⟨h1, h2, h3⟩
    · rename_i hnot
      have hk0 : (0 : Int) ≤ k := by omega
      have hk1 : (k : Int) < p.length := by omega
      obtain ⟨d, hd⟩ := ord_ex hp hk0 hk1
      have hmem : ∀ x, x ∈ orb p k ↔ ∃ j, j < d ∧ itP p k j = x := by intro x; rw [orb_eq hd]; simp
      have hcl : ∀ m (x : Int), x ∈ (cycK p k).flatten → itP p x m ∈ (cycK p k).flatten := by
        intro m
        induction m with
        | zero => intro x hx; exact hx
        | succ m ih => intro x hx; exact h3 _ (ih x hx)
      rw [List.flatten_append]
      simp only [List.flatten_cons, List.flatten_nil, List.append_nil]
      refine ⟨List.nodup_append.2 ⟨h1, orb_nodup hp hk0 hk1 hd, ?_⟩, ?_, ?_⟩
      · intro x hx y hy e
        subst e
        obtain ⟨j, hj, rfl⟩ := (hmem _).1 hy
        have := hcl (d - j) _ hx
        rw [← itP_add, show d - j + j = d by omega, hd.back] at this
        exact hnot this
      · intro x hx
        rcases List.mem_append.1 hx with h | h
        · exact h2 x h
        · obtain ⟨j, hj, rfl⟩ := (hmem _).1 h
          exact itP_rng hp hk0 hk1 j
      · intro x hx
        rcases List.mem_append.1 hx with h | h
        · exact List.mem_append_left _ (h3 x h)
        · obtain ⟨j, hj, rfl⟩ := (hmem _).1 h
          refine List.mem_append_right _ ((hmem _).2 ?_)
          by_cases e : j + 1 = d
          · exact ⟨0, hd.pos, by have := hd.back; rw [← e] at this; exact this.symm⟩
          · exact ⟨j + 1, by omega, rfl⟩

theorem cycK_len (p : List Int) : ∀ k, (cycK p k).length ≤ k
  | 0 => by simp [cycK]
  | k + 1 => by have := cycK_len p k; rw [cycK]; split <;> simp <;> omega
theorem cycK_sum {p : List Int} (hp : IsP p) {k : Nat} (hk : k ≤ p.length) : ((cycK p k).map List.length).sum ≤ p.length := by
  obtain ⟨h1, h2, _⟩ := cycK_ok hp k hk
  rw [← List.length_flatten]
  exact nodup_le p.length _ h1 h2
theorem cycK_pos {p : List Int} (hp : IsP p) : ∀ {k : Nat}, k ≤ p.length → ∀ l ∈ cycK p k, 0 < l.length
  | 0, _, l, h => by simp [cycK] at h
  | k + 1, hk, l, h => by
    rw [cycK] at h
    split at h
    · exact cycK_pos hp (by omega) l h
    · rcases List.mem_append.1 h with h | h
      · exact cycK_pos hp (by omega) l h
      · obtain ⟨d, hd⟩ := ord_ex hp (i := (k : Int)) (by omega) (by omega)
        simp at h
        rw [h, orb_len hd]; exact hd.pos

/-- the least common multiple, as it is computed. -/
def lcmF (o n : Nat) : Nat := o / Nat.gcd o n * n
def perF (ls : List Nat) : Nat := ls.foldl lcmF 1
theorem perF_snoc (ls : List Nat) (n : Nat) : perF (ls ++ [n]) = lcmF (perF ls) n := by simp [perF]
theorem cube_le : ∀ k : Nat, k ^ 3 ≤ 3 ^ k
  | 0 => by decide
  | 1 => by decide
  | 2 => by decide
  | 3 => by decide
  | k + 4 => by
    have ih := cube_le (k + 3)
    have e : 3 ^ (k + 4) = 3 * 3 ^ (k + 3) := by rw [show k + 4 = (k + 3) + 1 by omega, Nat.pow_succ]; omega
    rw [e]
    refine Nat.le_trans ?_ (Nat.mul_le_mul_left 3 ih)
    have h := Nat.pow_le_pow_left (show 3 * (k + 4) ≤ 4 * (k + 3) by omega) 3
    rw [Nat.mul_pow, Nat.mul_pow] at h
    omega
theorem lcmF_le (o n : Nat) : lcmF o n ≤ o * n := Nat.mul_le_mul_right n (Nat.div_le_self _ _)
theorem perGo_le : ∀ (ls : List Nat) (o s : Nat), o ^ 3 ≤ 3 ^ s → (ls.foldl lcmF o) ^ 3 ≤ 3 ^ (s + ls.sum)
  | [], o, s, h => by simpa using h
  | n :: r, o, s, h => by
    have h2 : (lcmF o n) ^ 3 ≤ 3 ^ (s + n) := by
      refine Nat.le_trans (Nat.pow_le_pow_left (lcmF_le o n) 3) ?_
      rw [Nat.mul_pow, Nat.pow_add]
      exact Nat.mul_le_mul h (cube_le n)
    have := perGo_le r (lcmF o n) (s + n) h2
    simpa [Nat.add_assoc] using this
theorem perF_cube (ls : List Nat) : (perF ls) ^ 3 ≤ 3 ^ ls.sum := by
  have := perGo_le ls 1 0 (by decide)
  simpa [perF] using this
theorem perF_lt (ls : List Nat) (h : ls.sum ≤ 64) : perF ls < 34359738368 := by
  have h1 := perF_cube ls
  have h2 : 3 ^ ls.sum ≤ 3 ^ 64 := Nat.pow_le_pow_right (by decide) h
  rcases Nat.lt_or_ge (perF ls) 34359738368 with h3 | h3
  · exact h3
  · have h4 := Nat.pow_le_pow_left h3 3
    have h5 : (34359738368 : Nat) ^ 3 > 3 ^ 64 := by decide
    omega
theorem lcmF_pos {o n : Nat} (ho : 0 < o) (hn : 0 < n) : 0 < lcmF o n := by
  unfold lcmF
  have hg : 0 < Nat.gcd o n := Nat.gcd_pos_of_pos_left _ ho
  have := Nat.div_pos (Nat.le_of_dvd ho (Nat.gcd_dvd_left o n)) hg
  exact Nat.mul_pos this hn
theorem perF_pos : ∀ (ls : List Nat) (o : Nat), 0 < o → (∀ n ∈ ls, 0 < n) → 0 < ls.foldl lcmF o
  | [], o, h, _ => h
  | n :: r, o, h, hr => perF_pos r _ (lcmF_pos h (hr n (by simp))) (fun m hm => hr m (by simp [hm]))
def periodN (p : List Int) : Nat := perF ((cycK p p.length).map List.length)
end Go.Proofs.YtmomeggnegcheaaGreatDoor
