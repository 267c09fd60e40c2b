/- Contracts and plain facts that the claim uses (McA Rp1 NuA TxA SpA CyA PeA). Conditions: as each one states. -/
import Derived.Test.YtglpfpdomnllkaaGreatDoorProg
import Derived.WalkKit
import Derived.WalkSpells
import Derived.Maps.AppendAt
import Derived.Deep.Quiet
import Derived.Maps.Own
import Derived.Maps.OwnSet
import Derived.Maps.Views
import Derived.WalkLawsBesides
import Derived.Laws.EntriesVeiled
import Derived.Shelf.Strings.Trim
import Derived.Shelf.Strings.SlTrimAscii
import Derived.Shelf.Strings.Repeat
import Derived.Shelf.Strings.OnBuilder
import Derived.Shelf.Strconv.Itoa1
import Derived.Shelf.Strconv.Itoa3
import Derived.Shelf.LaysM
import Derived.Ground.Names2Prog
import Derived.Laws.CopyOwn
import Derived.Deep.RegionLaw
import Derived.IntWalk
import Derived.RangeFuncNested
import Derived.RangeFuncBound
import Derived.RangeFuncCalls
import Derived.RangeFuncLeaves
import Derived.RangeFuncFrom
import Derived.Shelf.Abstract
import Derived.Shelf.RegionOpen
import Derived.OwnWalkIn
import Derived.TacticsInMore
import Derived.LoopNIn
import Derived.LoopIn
import Derived.Deep.QuietTactic
import Derived.BigQuiet
import Derived.StillTail
import Derived.Laws.Tables
import Derived.Deep.RegionHeld3
import Derived.BigRegion
import Derived.ChangeAlike
import Derived.Shelf.Bits.Mul64
import Derived.Lib.OthersKept
import Derived.Deep.AppendLies
import Derived.Deep.RegionHeldLaw
import Derived.Lib.ItoaLen
import Derived.Lib.ItoaMem
import Derived.Sort.LoopGhostIn
import Derived.Test.YtglpfpdomnllkaaGreatDoorXd01
import Derived.Test.YtglpfpdomnllkaaGreatDoorXd02
set_option linter.all false

namespace Go.Proofs.YtglpfpdomnllkaaGreatDoor
open Go.RowKit
set_option maxHeartbeats 400000
set_option maxRecDepth 100000

def permGo (n : Nat) : List Int → List Int → Int
 | _, [] => 0
 | seen, x :: r => if x < 0 ∨ n ≤ x ∨ x ∈ seen then 15 else permGo n (seen ++ [x]) r
def permE (l : List Int) : Int := if 256 < l.length then 5 else permGo l.length [] l

theorem permGo_step (n : Nat) (l : List Int) (k : Nat) (h : k < l.length) : permGo n (l.take k) (l.drop k) =
  if atD 0 l k < 0 ∨ n ≤ atD 0 l k ∨ atD 0 l k ∈ l.take k then 15 else permGo n (l.take (k + 1)) (l.drop (k + 1)) := by
 have e : l.drop k = l[k] :: l.drop (k + 1) := List.drop_eq_getElem_cons h
 have e2 : atD 0 l k = l[k] := by simp [atD, h]
 rw [e, e2, permGo, List.take_succ_eq_append_getElem h]

theorem CheckPerm_any (a : Option Addr) (cap : Nat) (l : List Int) (w : World) (hS : Ints w a cap l) (hI : ∀ x ∈ l, InI x) :
  Calls Tryz.prog 66 #[.slice a l.length cap] w fun r w' => r = .returned (.int .i64 (permE l)) ∧ Below w.heap.size w w' := by
 have hcap := hS.le
 have hm := hS.max
 have hmm := @run_makeMap Tryz.prog
 by_cases h64 : 256 < l.length
 ·have hs : permE l = 5 := by simp [permE, h64]
  have HS := hid hs; clear hs
  go_enter Tryz.func66, Tryz.ntmps66
  go_wp2
  go_ret
  exact ⟨by rw [HS.out]; rfl, Below.refl _ _⟩
 have hs : permE l = permGo l.length [] l := by simp [permE, h64]
 have HS := hid hs; clear hs
 go_enter Tryz.func66, Tryz.ntmps66
 go_wp2
 go_loopw [5, 12] (fun _ i wr => ∃ k : Nat, k ≤ l.length ∧ i = .int .i64 k ∧ MapB wr w.heap.size k (fun x => decide (x ∈ l.take k)) ∧ Below w.heap.size w wr ∧ permGo l.length (l.take k) (l.drop k) = permE l) (fun _ i _ => l.length - (intOf i).toNat)
 case atStart =>
  refine ⟨0, by omega, rfl, ?_, bal (Below.refl _ _) _, by simp [HS.out]⟩
  have := mapB_made w
  simpa using this
 case round =>
  obtain ⟨k, hk, rfl, hmap, hb, hgo⟩ := hrel
  have hmlt := hmap.lt
  have hR := hS.below hb
  have hnk : k < maxLen := by unfold maxLen; omega
  by_cases hlt : k < l.length
  ·have hstep := permGo_step l.length l k hlt
   have hin : InI (atD 0 l k) := hI _ (by simp [atD, hlt])
   rw [hgo] at hstep
   have hT : l.take (k + 1) = l.take k ++ [atD 0 l k] := by rw [List.take_succ_eq_append_getElem hlt]; simp [atD, hlt]
   have HT := hid hT; clear hT
   have HG := hid hgo; clear hgo
   have HT2 := hid hstep; clear hstep
   have HI := hid hin; clear hin
   by_cases c1 : atD 0 l k < 0
   ·go_wp2_with (first | (with_reducible refine wpList_idx _ 0 E_ints F_int cInt1 wU wU (hR) oD oD (fun _ => wU) (fun _ => ?_)) | (with_reducible refine wpList_lookB wU wU (hmap) (HI.out) wU ?_))
    all_goals
     go_ret
     exact ⟨by rw [HT2.out, if_pos (.inl c1)]; rfl, hb⟩
   by_cases c2 : (l.length : Int) ≤ atD 0 l k
   ·go_wp2_with (first | (with_reducible refine wpList_idx _ 0 E_ints F_int cInt1 wU wU (hR) oD oD (fun _ => wU) (fun _ => ?_)) | (with_reducible refine wpList_lookB wU wU (hmap) (HI.out) wU ?_))
    all_goals
     go_ret
     exact ⟨by rw [HT2.out, if_pos (.inr (.inl c2))]; rfl, hb⟩
   by_cases c4 : atD 0 l k ∈ l.take k
   ·have hd : decide (atD 0 l k ∈ l.take k) = true := by simpa using c4
    have HC := hid c4; clear c4
    go_wp2_with (first | (with_reducible refine wpList_idx _ 0 E_ints F_int cInt1 wU wU (hR) oD oD (fun _ => wU) (fun _ => ?_)) | (with_reducible refine wpList_lookB wU wU (hmap) (HI.out) wU ?_))
    go_ret
    exact ⟨by rw [HT2.out, if_pos (.inr (.inr HC.out))]; rfl, hb⟩
   ·have hd : decide (atD 0 l k ∈ l.take k) = false := by simpa using c4
    have HC := hid c4; clear c4
    go_wp2_with (first | (with_reducible refine wpList_idx _ 0 E_ints F_int cInt1 wU wU (hR) oD oD (fun _ => wU) (fun _ => ?_)) | (with_reducible refine wpList_lookB wU wU (hmap) (HI.out) wU ?_) | ((with_reducible refine wpList_putB wU wU wU (hmap) (HI.out) (hnk) ?_); intro w1 hm1 hg1))
    have e : (fun x => if x = atD 0 l k then true else decide (x ∈ l.take k)) = (fun x => decide (x ∈ l.take (k + 1))) := by
     funext x
     rw [HT.out]
     by_cases e : x = atD 0 l k <;> simp [e]
    rw [e] at hm1
    go_roundw
    case rel => exact ⟨k + 1, by omega, by go_num, hm1, hb.grown hg1 hb.size (fun j hj => by cases hj; omega), by rw [HT2.out, if_neg (by rintro (h | h | h); exact c1 h; exact c2 h; exact HC.out h)]⟩
    case measure => simp [intOf]; omega
  ·have : k = l.length := by omega
   subst this
   have e : permGo l.length (l.take l.length) (l.drop l.length) = 0 := by simp [permGo]
   rw [e] at hgo
   have HG := hid hgo; clear hgo e
   go_wp2
   go_ret
   exact ⟨by rw [← HG.out]; rfl, hb⟩
end Go.Proofs.YtglpfpdomnllkaaGreatDoor

namespace Go.Proofs.YtglpfpdomnllkaaGreatDoor
open Go.RowKit

theorem php : ∀ (n : Nat) (f : Nat → Nat), (∀ k, k ≤ n → f k < n) → ∃ a b, a < b ∧ b ≤ n ∧ f a = f b
 | 0, f, h => absurd (h 0 (Nat.le_refl _)) (by omega)
 | n + 1, f, h => by
   by_cases hex : ∃ a, a ≤ n ∧ f a = f (n + 1)
   · obtain ⟨a, ha, e⟩ := hex
     exact ⟨a, n + 1, by omega, by omega, e⟩
   · have hne : ∀ a, a ≤ n → f a ≠ f (n + 1) := fun a ha e => hex ⟨a, ha, e⟩
     obtain ⟨a, b, h1, h2, h3⟩ := php n (fun k => if f (n + 1) < f k then f k - 1 else f k) (fun k hk => by
       have h1 := h k (by omega); have h2 := h (n + 1) (by omega); have h3 := hne k hk
       split <;> omega)
     refine ⟨a, b, h1, by omega, ?_⟩
     have ha := hne a (by omega); have hb := hne b h2
     split at h3 <;> split at h3 <;> omega

theorem nodup_ne {l : List Int} (h : l.Nodup) {a b : Nat} (hab : a < b) (hb : b < l.length) : atD 0 l a ≠ atD 0 l b := by
 have := (List.pairwise_iff_getElem.1 h) a b (by omega) hb hab
 simpa [atD, hb, show a < l.length by omega] using this

theorem nodup_le (n : Nat) (l : List Int) (hn : l.Nodup) (hr : ∀ x ∈ l, 0 ≤ x ∧ x < n) : l.length ≤ n := by
 rcases Nat.lt_or_ge n l.length with h | h
 ·obtain ⟨a, b, h1, h2, h3⟩ := php n (fun k => (atD 0 l k).toNat) (fun k hk => by
   have := hr (atD 0 l k) (by simp [atD, show k < l.length by omega])
   omega)
  have ha := hr (atD 0 l a) (by simp [atD, show a < l.length by omega])
  have hb := hr (atD 0 l b) (by simp [atD, show b < l.length by omega])
  exact absurd (by omega) (nodup_ne hn h1 (by omega))
 ·exact h

/-- a permutation of 0 .. n - 1. -/
structure IsP (p : List Int) : Prop where
 rng : ∀ x : Int, 0 ≤ x → x < p.length → 0 ≤ atD 0 p x ∧ atD 0 p x < p.length
 inj : ∀ x y : Int, 0 ≤ x → x < p.length → 0 ≤ y → y < p.length → atD 0 p x = atD 0 p y → x = y

theorem permGo_zero (n : Nat) : ∀ (r seen : List Int), permGo n seen r = 0 → (∀ x ∈ r, 0 ≤ x ∧ x < n ∧ x ∉ seen) ∧ r.Nodup
 | [], _, _ => by simp
 | x :: r, seen, h => by
   rw [permGo] at h
   split at h
   · omega
   · rename_i hc
     obtain ⟨h1, h2⟩ := permGo_zero n r _ h
     have hx : 0 ≤ x ∧ x < n ∧ x ∉ seen := ⟨by omega, by omega, fun e => hc (.inr (.inr e))⟩
     refine ⟨fun y hy => ?_, List.nodup_cons.2 ⟨fun e => (h1 x e).2.2 (by simp), h2⟩⟩
     rcases List.mem_cons.1 hy with rfl | hy
     · exact hx
     · obtain ⟨a, b, c⟩ := h1 y hy
       exact ⟨a, b, fun e => c (List.mem_append_left _ e)⟩

theorem permE_zero {p : List Int} (h : permE p = 0) : p.length ≤ 256 ∧ (∀ x ∈ p, 0 ≤ x ∧ x < p.length) ∧ p.Nodup := by
 unfold permE at h
 split at h
 ·omega
 ·obtain ⟨h1, h2⟩ := permGo_zero _ _ _ h
  exact ⟨by omega, fun x hx => ⟨(h1 x hx).1, (h1 x hx).2.1⟩, h2⟩

theorem atD_memZ {l : List Int} {x : Int} (h0 : 0 ≤ x) (h1 : x < l.length) : atD 0 l x ∈ l := by
 have : x.toNat < l.length := by omega
 simp [atD, this]

theorem isP_of {p : List Int} (h : permE p = 0) : IsP p := by
 obtain ⟨_, h1, h2⟩ := permE_zero h
 refine ⟨fun x a b => h1 _ (atD_memZ a b), fun x y a b c d e => ?_⟩
 have ex : atD 0 p x = atD 0 p (x.toNat : Int) := by rw [Int.toNat_of_nonneg a]
 have ey : atD 0 p y = atD 0 p (y.toNat : Int) := by rw [Int.toNat_of_nonneg c]
 rw [ex, ey] at e
 rcases Nat.lt_trichotomy x.toNat y.toNat with k | k | k
 ·exact absurd e (nodup_ne h2 k (by omega))
 ·omega
 ·exact absurd e.symm (nodup_ne h2 k (by omega))

def itP (p : List Int) (i : Int) : Nat → Int
 | 0 => i
 | k + 1 => atD 0 p (itP p i k)
theorem itP_add (p : List Int) (i : Int) (b : Nat) : ∀ a : Nat, itP p i (a + b) = itP p (itP p i b) a
 | 0 => by simp [itP]
 | a + 1 => by
   have : a + 1 + b = (a + b) + 1 := by omega
   rw [this, itP, itP, itP_add p i b a]

section
variable {p : List Int} (hp : IsP p)
include hp
theorem itP_rng {i : Int} (h0 : 0 ≤ i) (h1 : i < p.length) : ∀ k, 0 ≤ itP p i k ∧ itP p i k < p.length
 | 0 => ⟨h0, h1⟩
 | k + 1 => hp.rng _ (itP_rng h0 h1 k).1 (itP_rng h0 h1 k).2
theorem itP_inj {x y : Int} (hx : 0 ≤ x) (hx1 : x < p.length) (hy : 0 ≤ y) (hy1 : y < p.length) : ∀ k, itP p x k = itP p y k → x = y
 | 0, h => h
 | k + 1, h => itP_inj hx hx1 hy hy1 k (hp.inj _ _ (itP_rng hp hx hx1 k).1 (itP_rng hp hx hx1 k).2 (itP_rng hp hy hy1 k).1 (itP_rng hp hy hy1 k).2 h)
theorem itP_back {i : Int} (h0 : 0 ≤ i) (h1 : i < p.length) : ∃ d, 0 < d ∧ d ≤ p.length ∧ itP p i d = i := by
 obtain ⟨a, b, hab, hb, he⟩ := php p.length (fun k => (itP p i k).toNat) (fun k _ => by have := itP_rng hp h0 h1 k; omega)
 have ra := itP_rng hp h0 h1 a
 have rb := itP_rng hp h0 h1 b
 have e : itP p i a = itP p i b := by omega
 have e2 : itP p i b = itP p (itP p i (b - a)) a := by rw [← itP_add]; congr 1; omega
 rw [e2] at e
 have rd := itP_rng hp h0 h1 (b - a)
 exact ⟨b - a, by omega, by omega, (itP_inj hp h0 h1 rd.1 rd.2 a e).symm⟩
end

theorem leastN (q : Nat → Prop) : ∀ d, q d → ∃ m, m ≤ d ∧ q m ∧ ∀ j, j < m → ¬ q j := by
 intro d
 induction d using Nat.strongRecOn with
 | _ d ih =>
  intro h
  by_cases hex : ∃ j, j < d ∧ q j
  ·obtain ⟨j, hj, hq⟩ := hex
   obtain ⟨m, h1, h2, h3⟩ := ih j hj hq
   exact ⟨m, by omega, h2, h3⟩
  ·exact ⟨d, Nat.le_refl _, h, fun j hj hq => hex ⟨j, hj, hq⟩⟩

/-- d is the least number of steps above 0 after which i comes again. -/
structure Ord (p : List Int) (i : Int) (d : Nat) : Prop where
 pos : 0 < d
 le : d ≤ p.length
 back : itP p i d = i
 min : ∀ j, 0 < j → j < d → itP p i j ≠ i

theorem ord_ex {p : List Int} (hp : IsP p) {i : Int} (h0 : 0 ≤ i) (h1 : i < p.length) : ∃ d, Ord p i d := by
 obtain ⟨d, a, b, c⟩ := itP_back hp h0 h1
 obtain ⟨m, h2, ⟨h3, h4⟩, h5⟩ := leastN (fun d => 0 < d ∧ itP p i d = i) d ⟨a, c⟩
 exact ⟨m, h3, by omega, h4, fun j hj hjm e => h5 j hjm ⟨hj, e⟩⟩

def orbGo (p : List Int) (i : Int) : Nat → Int → List Int
 | 0, _ => []
 | f + 1, x => x :: (if atD 0 p x = i then [] else orbGo p i f (atD 0 p x))
def orb (p : List Int) (i : Int) : List Int := orbGo p i p.length i

theorem orbGo_eq {p : List Int} {i : Int} {d : Nat} (h : Ord p i d) : ∀ (f k : Nat), k < d → d ≤ k + f → orbGo p i f (itP p i k) = (List.range' k (d - k)).map (itP p i)
 | 0, k, h1, h2 => by omega
 | f + 1, k, h1, h2 => by
   rw [orbGo]
   have e : d - k = (d - (k + 1)) + 1 := by omega
   rw [e, List.range'_succ, List.map_cons]
   congr 1
   by_cases hk : k + 1 = d
   · have e2 : atD 0 p (itP p i k) = i := by have := h.back; rw [← hk] at this; exact this
     rw [if_pos e2, hk]; simp
   · have hne : atD 0 p (itP p i k) ≠ i := h.min (k + 1) (by omega) (by omega)
     rw [if_neg hne]
     exact orbGo_eq h f (k + 1) (by omega) (by omega)
theorem orb_eq {p : List Int} {i : Int} {d : Nat} (h : Ord p i d) : orb p i = (List.range d).map (itP p i) := by
 have := orbGo_eq h p.length 0 h.pos (by have := h.le; omega)
 rw [orb, List.range_eq_range']; simpa [itP] using this
theorem orb_len {p : List Int} {i : Int} {d : Nat} (h : Ord p i d) : (orb p i).length = d := by rw [orb_eq h]; simp

theorem orb_nodup {p : List Int} (hp : IsP p) {i : Int} (h0 : 0 ≤ i) (h1 : i < p.length) {d : Nat} (h : Ord p i d) : (orb p i).Nodup := by
 rw [orb_eq h, List.Nodup, List.pairwise_map, List.pairwise_iff_getElem]
 intro a b ha hb hab
 simp at ha hb ⊢
 intro e
 have e2 : itP p i b = itP p (itP p i (b - a)) a := by rw [← itP_add]; congr 1; omega
 rw [e2] at e
 have rd := itP_rng hp h0 h1 (b - a)
 exact h.min (b - a) (by omega) (by omega) (itP_inj hp h0 h1 rd.1 rd.2 a e).symm

/-- the cycles that the first k places have. -/
def cycK (p : List Int) : Nat → List (List Int)
 | 0 => []
 | k + 1 => if (k : Int) ∈ (cycK p k).flatten then cycK p k else cycK p k ++ [orb p k]

theorem cycK_ok {p : List Int} (hp : IsP p) : ∀ k, k ≤ p.length → (cycK p k).flatten.Nodup ∧ (∀ x ∈ (cycK p k).flatten, 0 ≤ x ∧ x < p.length) ∧ (∀ x ∈ (cycK p k).flatten, atD 0 p x ∈ (cycK p k).flatten)
 | 0, _ => by simp [cycK]
 | k + 1, hk => by
   obtain ⟨h1, h2, h3⟩ := cycK_ok hp k (by omega)
   rw [cycK]
   split
   · exact ⟨h1, h2, h3⟩
   · rename_i hnot
     have hk0 : (0 : Int) ≤ k := by omega
     have hk1 : (k : Int) < p.length := by omega
     obtain ⟨d, hd⟩ := ord_ex hp hk0 hk1
     have hmem : ∀ x, x ∈ orb p k ↔ ∃ j, j < d ∧ itP p k j = x := by intro x; rw [orb_eq hd]; simp
     have hcl : ∀ m (x : Int), x ∈ (cycK p k).flatten → itP p x m ∈ (cycK p k).flatten := by
       intro m
       induction m with
       | zero => intro x hx; exact hx
       | succ m ih => intro x hx; exact h3 _ (ih x hx)
     rw [List.flatten_append]
     simp only [List.flatten_cons, List.flatten_nil, List.append_nil]
     refine ⟨List.nodup_append.2 ⟨h1, orb_nodup hp hk0 hk1 hd, ?_⟩, ?_, ?_⟩
     · intro x hx y hy e
       subst e
       obtain ⟨j, hj, rfl⟩ := (hmem _).1 hy
       have := hcl (d - j) _ hx
       rw [← itP_add, show d - j + j = d by omega, hd.back] at this
       exact hnot this
     · intro x hx
       rcases List.mem_append.1 hx with h | h
       · exact h2 x h
       · obtain ⟨j, hj, rfl⟩ := (hmem _).1 h
         exact itP_rng hp hk0 hk1 j
     · intro x hx
       rcases List.mem_append.1 hx with h | h
       · exact List.mem_append_left _ (h3 x h)
       · obtain ⟨j, hj, rfl⟩ := (hmem _).1 h
         refine List.mem_append_right _ ((hmem _).2 ?_)
         by_cases e : j + 1 = d
         · exact ⟨0, hd.pos, by have := hd.back; rw [← e] at this; exact this.symm⟩
         · exact ⟨j + 1, by omega, rfl⟩

theorem cycK_len (p : List Int) : ∀ k, (cycK p k).length ≤ k
 | 0 => by simp [cycK]
 | k + 1 => by have := cycK_len p k; rw [cycK]; split <;> simp <;> omega
theorem cycK_sum {p : List Int} (hp : IsP p) {k : Nat} (hk : k ≤ p.length) : ((cycK p k).map List.length).sum ≤ p.length := by
 obtain ⟨h1, h2, _⟩ := cycK_ok hp k hk
 rw [← List.length_flatten]
 exact nodup_le p.length _ h1 h2
theorem cycK_pos {p : List Int} (hp : IsP p) : ∀ {k : Nat}, k ≤ p.length → ∀ l ∈ cycK p k, 0 < l.length
 | 0, _, l, h => by simp [cycK] at h
 | k + 1, hk, l, h => by
   rw [cycK] at h
   split at h
   · exact cycK_pos hp (by omega) l h
   · rcases List.mem_append.1 h with h | h
     · exact cycK_pos hp (by omega) l h
     · obtain ⟨d, hd⟩ := ord_ex hp (i := (k : Int)) (by omega) (by omega)
       simp at h
       rw [h, orb_len hd]; exact hd.pos

/-- the least common multiple, as it is computed. -/
def lcmF (o n : Nat) : Nat := o / Nat.gcd o n * n
def perF (ls : List Nat) : Nat := ls.foldl lcmF 1
theorem perF_snoc (ls : List Nat) (n : Nat) : perF (ls ++ [n]) = lcmF (perF ls) n := by simp [perF]
theorem cube_le : ∀ k : Nat, k ^ 3 ≤ 3 ^ k
 | 0 => by decide
 | 1 => by decide
 | 2 => by decide
 | 3 => by decide
 | k + 4 => by
   have ih := cube_le (k + 3)
   have e : 3 ^ (k + 4) = 3 * 3 ^ (k + 3) := by rw [show k + 4 = (k + 3) + 1 by omega, Nat.pow_succ]; omega
   rw [e]
   refine Nat.le_trans ?_ (Nat.mul_le_mul_left 3 ih)
   have h := Nat.pow_le_pow_left (show 3 * (k + 4) ≤ 4 * (k + 3) by omega) 3
   rw [Nat.mul_pow, Nat.mul_pow] at h
   omega
theorem lcmF_le (o n : Nat) : lcmF o n ≤ o * n := Nat.mul_le_mul_right n (Nat.div_le_self _ _)
theorem perGo_le : ∀ (ls : List Nat) (o s : Nat), o ^ 3 ≤ 3 ^ s → (ls.foldl lcmF o) ^ 3 ≤ 3 ^ (s + ls.sum)
 | [], o, s, h => by simpa using h
 | n :: r, o, s, h => by
   have h2 : (lcmF o n) ^ 3 ≤ 3 ^ (s + n) := by
     refine Nat.le_trans (Nat.pow_le_pow_left (lcmF_le o n) 3) ?_
     rw [Nat.mul_pow, Nat.pow_add]
     exact Nat.mul_le_mul h (cube_le n)
   have := perGo_le r (lcmF o n) (s + n) h2
   simpa [Nat.add_assoc] using this
theorem perF_cube (ls : List Nat) : (perF ls) ^ 3 ≤ 3 ^ ls.sum := by
 have := perGo_le ls 1 0 (by decide)
 simpa [perF] using this
theorem perF_lt (ls : List Nat) (h : ls.sum ≤ 64) : perF ls < 34359738368 := by
 have h1 := perF_cube ls
 have h2 : 3 ^ ls.sum ≤ 3 ^ 64 := Nat.pow_le_pow_right (by decide) h
 rcases Nat.lt_or_ge (perF ls) 34359738368 with h3 | h3
 ·exact h3
 ·have h4 := Nat.pow_le_pow_left h3 3
  have h5 : (34359738368 : Nat) ^ 3 > 3 ^ 64 := by decide
  omega
theorem lcmF_pos {o n : Nat} (ho : 0 < o) (hn : 0 < n) : 0 < lcmF o n := by
 unfold lcmF
 have hg : 0 < Nat.gcd o n := Nat.gcd_pos_of_pos_left _ ho
 have := Nat.div_pos (Nat.le_of_dvd ho (Nat.gcd_dvd_left o n)) hg
 exact Nat.mul_pos this hn
theorem perF_pos : ∀ (ls : List Nat) (o : Nat), 0 < o → (∀ n ∈ ls, 0 < n) → 0 < ls.foldl lcmF o
 | [], o, h, _ => h
 | n :: r, o, h, hr => perF_pos r _ (lcmF_pos h (hr n (by simp))) (fun m hm => hr m (by simp [hm]))
def periodN (p : List Int) : Nat := perF ((cycK p p.length).map List.length)
end Go.Proofs.YtglpfpdomnllkaaGreatDoor

namespace Go.Proofs.YtglpfpdomnllkaaGreatDoor
open Go.RowKit
set_option maxHeartbeats 1000000
set_option maxRecDepth 100000

/-- the first m numbers of a list that goes round and round. -/
def cyc (l : List Int) (m : Nat) : List Int := (List.range m).map fun j => l.getD (j % l.length) 0
theorem cyc_len (l : List Int) (m : Nat) : (cyc l m).length = m := by simp [cyc]
theorem cyc_take (l : List Int) {m k : Nat} (h : k ≤ m) : (cyc l m).take k = cyc l k := by
 unfold cyc; rw [← List.map_take, List.take_range, Nat.min_eq_left h]
/-- what is laid so far: a block of N numbers of which the first m are those of cyc. -/
def Laid (w : World) (g N m : Nat) (l : List Int) : Prop :=
 ∃ cur : List Value, w.heap[g]? = some (.cells cur.toArray 3 (0, 0)) ∧ cur.length = N ∧ cur.take m = (cyc l m).map cInt ∧ m ≤ N
theorem Laid.own {w : World} {g N : Nat} {l : List Int} {B : Nat} (h : Laid w g N N l) (hB : B ≤ g) (hN : N ≤ 1048576) : OwnI B w (.slice (some ⟨g, 0, none⟩) N N) (cyc l N) := by
 obtain ⟨cur, h1, h2, h3, _⟩ := h
 have e : ((cyc l N).flatMap fun x => (cInt x).cells.toList) = (cyc l N).map cInt := by
  generalize cyc l N = L
  induction L with
  | nil => rfl
  | cons x r ih => rw [List.flatMap_cons, ih]; rfl
 refine ⟨cIntS, ?_⟩
 rw [cyc_len, e, ← h3]
 refine ⟨by simp [h2], .inr ⟨g, N, cur.toArray, rfl, hB, h1, Nat.le_refl _, by unfold maxLen; omega, by simp [h2], by simp⟩⟩
theorem Laid.cell {w : World} {g N m : Nat} {l : List Int} (h : Laid w g N m l) (j k : Nat) (hk : k ≤ m) (v : Value) (hv : ((cyc l k).map cInt)[j]? = some v) : w.cell? ((⟨g, 0, none⟩ : Addr).add j) = some v := by
 obtain ⟨cur, h1, h2, h3, h4⟩ := h
 rw [Addr.add_z, Nat.zero_add, cell_of_row _ _ _ _ _ _ h1]
 have hj : j < k := by
  have := (List.getElem?_eq_some_iff.1 hv).1
  simpa [cyc] using this
 rw [← cyc_take l hk, List.map_take, ← h3] at hv
 rw [List.getElem?_take, List.getElem?_take] at hv
 rw [if_pos hj, if_pos (by omega)] at hv
 simpa using hv

end Go.Proofs.YtglpfpdomnllkaaGreatDoor

namespace Go.Proofs.YtglpfpdomnllkaaGreatDoor
open Go.RowKit
set_option maxHeartbeats 1000000
set_option maxRecDepth 100000

theorem F_u64s : Flat Tryz.prog 102 := ⟨_, Tryz.underlying102, rfl⟩
theorem A_int : Aggr Tryz.prog 104 := ⟨_, Tryz.underlying104, rfl⟩
theorem A_frac : Aggr Tryz.prog 106 := ⟨_, Tryz.underlying106, rfl⟩
theorem new_at {X : World} {o : Obj} {k : Nat} (hk : X.heap.size = k) : (X.alloc o).heap[k]? = some o := by subst hk; exact heap_alloc_new X o
/-- a small integer, a small fraction. -/
abbrev iV (n : Int) : Value := .agg #[.int .i64 n, .slice none 0 0]
abbrev fV (p q : Int) : Value := .agg #[.int .i64 p, .slice none 0 0, .int .i64 q, .slice none 0 0]

theorem Of_any (n : Int) (w : World) :
  Calls Tryz.prog 101 #[.int .i64 n] w fun r w' => r = .returned (iV n) ∧ Below w.heap.size w w' := by
 go_enter Tryz.func101, Tryz.ntmps101
 go_wp2
 exact bodyPost_ret (v := iV n) (by simp [results, Tryz.f101, go_sem]) rfl ⟨rfl, bal (Below.refl _ _) _⟩
theorem Whole_any (n : Int) (w : World) :
  Calls Tryz.prog 69 #[iV n] w fun r w' => r = .returned (fV n 1) ∧ Below w.heap.size w w' := by
 go_enter Tryz.func69, Tryz.ntmps69
 go_wp2
 have hS := ((SL.nil w).box (.cells #[.int .i64 n, .slice none 0 0] 104)).box (.cells #[.int .i64 0, .slice none 0 0, .int .i64 0, .slice none 0 0] 106)
 simp only [World.size_alloc] at hS
 have q0 := (hS.blk 1 rfl).1
 refine wp_region_qt 3 kR kR ?_
 simp only [List.take_succ_cons, List.take_zero, List.drop_succ_cons, List.drop_zero]
 repeat (first | ((refine wpB_call (iV 1) wU (fun w' => ?_) (fun w' hw' => Of_any 1 w') ?_); (focus (go_simp; done)); (try simp only [Act.put, pA, pB, pC])) |  ((with_reducible refine wpB_load (by first | exact F_int | exact F_u64s) wU wU (by assumption) wU ?_); (try simp only [Act.put, pA, pB, pC])) | ((with_reducible refine wpB_loadS (n := 2) (us := #[_, _]) A_int kR wU wU (by assumption) wU wU ?_); (try simp only [Act.put, pA, pB, pC])) | ((with_reducible refine wpB_loadS (n := 4) (us := #[_, _, _, _]) A_frac kR wU wU (by assumption) wU wU ?_); (try simp only [Act.put, pA, pB, pC])) | ((refine wpQ_oneG ?_ wU (fun w' => ?_) ?_); rotate_left; (go_simp; rfl); (try simp only [Act.put, pA, pB, pC])))
 refine wpQuiet_nil ?_
 intro w1 hb1
 replace hS := hS.mono hb1
 go_wp2_with ((with_reducible refine wpList_stoR (us := #[.int .i64 n, .slice none 0 0, .int .i64 1, .slice none 0 0]) 0 wU wU (hS) wU kR wU wU ?_); intro w2 hS2)
 exact bodyPost_ret (results_cell rfl rfl A_frac kR (hS2.blk 0 rfl).1) rfl ⟨rfl, hS2.b⟩

theorem F_any (n : Int) (w : World) :
  Calls Tryz.prog 67 #[.int .i64 n] w fun r w' => r = .returned (fV n 1) ∧ Below w.heap.size w w' := by
 go_enter Tryz.func67, Tryz.ntmps67
 go_wp2_with fail
 refine (Of_any n _).mono ?_
 rintro e w1 ⟨rfl, hb1⟩
 go_wp2_with fail
 refine (Whole_any n _).mono ?_
 rintro e w2 ⟨rfl, hb2⟩
 have hS := (((SL.nil w).box (.cells #[.int .i64 0, .slice none 0 0, .int .i64 0, .slice none 0 0] 106)).mono hb1).mono hb2
 go_wp2_with ((with_reducible refine wpList_stoR (us := #[.int .i64 n, .slice none 0 0, .int .i64 1, .slice none 0 0]) 0 wU wU (hS) wU kR wU wU ?_); intro w3 hS2)
 exact bodyPost_ret (results_cell rfl rfl A_frac kR (hS2.blk 0 rfl).1) rfl ⟨rfl, hS2.b⟩

def sgn (n : Int) : Int := if n < 0 then -1 else if n = 0 then 0 else 1
theorem Sign_any (n : Int) (w : World) :
  Calls Tryz.prog 127 #[iV n] w fun r w' => r = .returned (.int .i64 (sgn n)) ∧ Below w.heap.size w w' := by
 rcases Int.lt_trichotomy n 0 with h | h | h
 ·have hs : sgn n = -1 := by simp [sgn, h]
  rw [hs]; clear hs
  have h2 : n ≤ -1 := by omega
  go_enter Tryz.func127, Tryz.ntmps127
  go_wp2
  go_ret
  exact ⟨by simp; omega, bal (Below.refl _ _) _⟩
 ·subst h
  go_enter Tryz.func127, Tryz.ntmps127
  go_wp2
  go_ret
  exact ⟨by simp [sgn]; decide, bal (Below.refl _ _) _⟩
 ·have hs : sgn n = 1 := by simp [sgn]; omega
  rw [hs]; clear hs
  have h2 : 1 ≤ n := by omega
  go_enter Tryz.func127, Tryz.ntmps127
  go_wp2
  go_ret
  exact ⟨by simp; omega, bal (Below.refl _ _) _⟩

theorem Abs_any (n : Int) (w : World) (h : 0 ≤ n) :
  Calls Tryz.prog 145 #[iV n] w fun r w' => r = .returned (iV n) ∧ Below w.heap.size w w' := by
 go_enter Tryz.func145, Tryz.ntmps145
 go_wp2
 exact bodyPost_ret (results_cell rfl rfl A_int kR (new_at (by simp))) rfl ⟨rfl, bal (bal (Below.refl _ _) _) _⟩

theorem DivMod_any (x y : Int) (w : World) (h0 : 0 ≤ x) (h1 : x ≤ 4611686018427387904) (h2 : 0 < y) (h3 : y ≤ 4611686018427387904) :
  Calls Tryz.prog 146 #[iV x, iV y] w fun r w' => r = .returned (.tuple #[iV (x / y), iV (x % y)]) ∧ Below w.heap.size w w' := by
 have heq := fun (w : World) (a : Option Addr) (n c : Nat) => Lib.run_eql_slice_nil (P := Tryz.prog) w 102 165 a n c 0 0 Tryz.underlying102
 have hmin : (x != -9223372036854775808) = true := by simp; omega
 go_enter Tryz.func146, Tryz.ntmps146
 go_wp2
 have hq0 : 0 ≤ x / y := Int.ediv_nonneg h0 (by omega)
 have hq1 : x / y ≤ x := Int.ediv_le_self y h0
 have hr0 : 0 ≤ x % y := Int.emod_nonneg x (by omega)
 have hr1 : x % y < y := Int.emod_lt_of_pos x h2
 have e1 : x.tdiv y = x / y := Int.tdiv_eq_ediv_of_nonneg h0
 have e2 : x.tmod y = x % y := Int.tmod_eq_emod_of_nonneg h0
 have e3 : IntKind.i64.wrap (x / y) = x / y := IntWalk.i64_in _ (by omega)
 have hy : ¬ y = 0 := by omega
 refine wp_region_quiet_lit kR kR ?_
 repeat (first  | quiet_step (fail))
 refine wpQuiet_nil ?_
 intro w1 hb1
 replace hb1 := below_drewN hb1
 have hS := ((((SL.nil w).box (.cells #[.int .i64 x, .slice none 0 0] 104)).box (.cells #[.int .i64 y, .slice none 0 0] 104)).box (.cells #[.int .i64 0, .slice none 0 0] 104)).box (.cells #[.int .i64 0, .slice none 0 0] 104)
 simp only [World.size_alloc] at hS
 replace hS := hS.mono hb1
 clear e1 e2 e3
 go_wp2_with (first | ((with_reducible refine wpList_stoR (us := #[.int .i64 (x / y), .slice none 0 0]) 1 wU wU (hS) wU kR wU wU ?_); intro w2 hS2) | ((with_reducible refine wpList_stoR (us := #[.int .i64 (x % y), .slice none 0 0]) 0 wU wU (hS2) wU kR wU wU ?_); intro w3 hS3))
 exact bodyPost_ret (results_cell2 rfl rfl rfl A_int kR kR (hS3.blk 1 rfl).1 (hS3.blk 0 rfl).1) rfl ⟨rfl, hS3.b⟩

theorem Quo_any (x y : Int) (w : World) (h0 : 0 ≤ x) (h1 : x ≤ 4611686018427387904) (h2 : 0 < y) (h3 : y ≤ 4611686018427387904) :
  Calls Tryz.prog 130 #[iV x, iV y] w fun r w' => r = .returned (iV (x / y)) ∧ Below w.heap.size w w' := by
 have hs : sgn y = 1 := by simp [sgn]; omega
 have HS1 := fun w => Sign_any y w
 rw [hs] at HS1
 have HSG := hid HS1; clear HS1 hs
 go_enter Tryz.func130, Tryz.ntmps130
 go_wp2_with fail
 have hS := (((SL.nil w).box (.cells #[.int .i64 x, .slice none 0 0] 104)).box (.cells #[.int .i64 y, .slice none 0 0] 104)).box (.cells #[.int .i64 0, .slice none 0 0] 104)
 simp only [World.size_alloc] at hS
 refine (HSG.out _).mono ?_
 rintro e w1 ⟨rfl, hb1⟩
 replace hS := hS.mono hb1
 have q1 := (hS.blk 1 rfl).1
 have q2 := (hS.blk 2 rfl).1
 go_wp2_with (first | (with_reducible refine wpList_ldB (by first | exact F_int | exact F_u64s) wU wU (by assumption) wU ?_) | (with_reducible refine wpList_ldS (n := 2) (us := #[_, _]) A_int kR wU wU (by assumption) wU wU ?_))
 refine (DivMod_any x y _ h0 h1 h2 h3).mono ?_
 rintro e w2 ⟨rfl, hb2⟩
 replace hS := hS.mono hb2
 clear q1 q2
 go_wp2_with ((with_reducible refine wpList_stoR (us := #[.int .i64 (x / y), .slice none 0 0]) 0 wU wU (((hS.al _).al _)) wU kR wU wU ?_); intro w3 hS3)
 exact bodyPost_ret (results_cell rfl rfl A_int kR (hS3.blk 0 rfl).1) rfl ⟨rfl, hS3.b⟩

theorem Gcd_any (x y : Int) (w : World) (h0 : 0 ≤ x) (h1 : x ≤ 4611686018427387904) (h2 : 0 ≤ y) (h3 : y ≤ 4611686018427387904) :
  Calls Tryz.prog 129 #[iV x, iV y] w fun r w' => r = .returned (iV (Int.gcd x y)) ∧ Below w.heap.size w w' := by
 go_enter Tryz.func129, Tryz.ntmps129
 go_wp2_with fail
 have hS := (((SL.nil w).box (.cells #[.int .i64 x, .slice none 0 0] 104)).box (.cells #[.int .i64 y, .slice none 0 0] 104)).box (.cells #[.int .i64 0, .slice none 0 0] 104)
 simp only [World.size_alloc] at hS
 have q1 := (hS.blk 1 rfl).1
 have q2 := (hS.blk 2 rfl).1
 refine wp_region_qt 4 kR kR ?_
 simp only [List.take_succ_cons, List.take_zero, List.drop_succ_cons, List.drop_zero]
 repeat (first | ((refine wpB_call (iV x) wU (fun w' => ?_) (fun w' hw' => Abs_any x w' h0) ?_); (focus (go_simp; done)); (try simp only [Act.put, pA, pB, pC])) | ((refine wpB_call (iV y) wU (fun w' => ?_) (fun w' hw' => Abs_any y w' h2) ?_); (focus (go_simp; done)); (try simp only [Act.put, pA, pB, pC])) |  ((with_reducible refine wpB_load (by first | exact F_int | exact F_u64s) wU wU (by assumption) wU ?_); (try simp only [Act.put, pA, pB, pC])) | ((with_reducible refine wpB_loadS (n := 2) (us := #[_, _]) A_int kR wU wU (by assumption) wU wU ?_); (try simp only [Act.put, pA, pB, pC])) | ((with_reducible refine wpB_loadS (n := 4) (us := #[_, _, _, _]) A_frac kR wU wU (by assumption) wU wU ?_); (try simp only [Act.put, pA, pB, pC])) | ((refine wpQ_oneG ?_ wU (fun w' => ?_) ?_); rotate_left; (go_simp; rfl); (try simp only [Act.put, pA, pB, pC])))
 refine wpQuiet_nil ?_
 intro w1 hb1
 replace hS := hS.mono hb1
 clear q1 q2
 go_wp2_with (first | ((with_reducible refine wpList_stoR (us := #[.int .i64 x, .slice none 0 0]) 2 wU wU (hS) wU kR wU wU ?_); intro w2 hS2) | ((with_reducible refine wpList_stoR (us := #[.int .i64 y, .slice none 0 0]) 1 wU wU (hS2) wU kR wU wU ?_); intro w3 hS3))
 go_frame
 obtain ⟨H, hH⟩ : ∃ H, H = w.heap.size := ⟨_, rfl⟩
 rw [← hH] at hS3 ⊢
 have HH := hid hH; clear hH
 clear hS2 hS
 have hS3 : SL H w w3 [pBlk (H + 1 + 1) (.cells #[.int .i64 0, .slice none 0 0] 104), pBlk (H + 1) (.cells #[.int .i64 y, .slice none 0 0] 104), pBlk H (.cells #[.int .i64 x, .slice none 0 0] 104)] := hS3
 go_loopg [] y.toNat (fun g wr => ∃ a b : Int, g = b.toNat ∧ 0 ≤ a ∧ a ≤ 4611686018427387904 ∧ 0 ≤ b ∧ b ≤ 4611686018427387904 ∧ Aside (Int.gcd a b = Int.gcd x y) ∧
   SL H w wr [pBlk (H + 1 + 1) (.cells #[.int .i64 0, .slice none 0 0] 104), pBlk (H + 1) (.cells #[.int .i64 b, .slice none 0 0] 104), pBlk H (.cells #[.int .i64 a, .slice none 0 0] 104)])
 case atStart => exact ⟨x, y, rfl, h0, h1, h2, h3, rfl, hS3⟩
 case round =>
  obtain ⟨a, b, hg, ha0, ha1, hb0, hb1', HG, hSr⟩ := hrel
  have HGK := hid hg; clear hg
  clear hS3
  have q1 := (hSr.blk 1 rfl).1
  have q2 := (hSr.blk 2 rfl).1
  by_cases hz : b = 0
  ·subst hz
   have HSG := hid (fun w => Sign_any 0 w)
   go_wp2_with (with_reducible refine wpList_ldS (n := 2) (us := #[_, _]) A_int kR wU wU (by assumption) wU wU ?_)
   refine (HSG.out _).mono ?_
   rintro e w4 ⟨rfl, hb4⟩
   replace hSr := hSr.mono hb4
   clear q1 q2
   have q2 := (hSr.blk 2 rfl).1
   have hs0 : sgn 0 = 0 := by decide
   go_wp2_with (first | (with_reducible refine wpList_ldS (n := 2) (us := #[_, _]) A_int kR wU wU (by assumption) wU wU ?_) | ((with_reducible refine wpList_stoR (us := #[.int .i64 a, .slice none 0 0]) 0 wU wU (hSr) wU kR wU wU ?_); intro w5 hS5))
   refine bodyPost_ret (results_cell rfl rfl A_int kR (hS5.blk 0 rfl).1) rfl ⟨?_, by rw [← HH.out]; exact hS5.b⟩
   rw [← HG.out, Int.gcd_zero_right, Int.natAbs_of_nonneg ha0]
  ·have hs : sgn b = 1 := by simp [sgn]; omega
   have HS1 := fun w => Sign_any b w
   rw [hs] at HS1
   have HSG := hid HS1; clear HS1 hs
   have hbp : 0 < b := by omega
   go_wp2_with (with_reducible refine wpList_ldS (n := 2) (us := #[_, _]) A_int kR wU wU (by assumption) wU wU ?_)
   refine (HSG.out _).mono ?_
   rintro e w4 ⟨rfl, hb4⟩
   replace hSr := hSr.mono hb4
   clear q1 q2
   have q1 := (hSr.blk 1 rfl).1
   have q2 := (hSr.blk 2 rfl).1
   go_wp2_with (with_reducible refine wpList_ldS (n := 2) (us := #[_, _]) A_int kR wU wU (by assumption) wU wU ?_)
   refine (DivMod_any a b _ ha0 ha1 hbp hb1').mono ?_
   rintro e w5 ⟨rfl, hb5⟩
   replace hSr := hSr.mono hb5
   clear q1 q2
   go_wp2_with fail
   replace hSr := (hSr.box (.cells #[.int .i64 (a / b), .slice none 0 0] 104)).box (.cells #[.int .i64 (a % b), .slice none 0 0] 104)
   simp only [World.size_alloc] at hSr
   have hr0 : 0 ≤ a % b := Int.emod_nonneg a (by omega)
   have hr1 : a % b < b := Int.emod_lt_of_pos a hbp
   have n1 := hSr.apart 0 4 (by decide) rfl rfl blk_at blk_at
   have n2 := hSr.apart 0 3 (by decide) rfl rfl blk_at blk_at
   obtain ⟨K, hK⟩ : ∃ K, K = w5.heap.size + 1 := ⟨_, rfl⟩
   rw [← hK] at hSr n1 n2 ⊢
   clear hK
   obtain ⟨W6, hW6⟩ : ∃ W6, W6 = (w5.alloc (.cells #[.int .i64 (a / b), .slice none 0 0] 104)).alloc (.cells #[.int .i64 (a % b), .slice none 0 0] 104) := ⟨_, rfl⟩
   rw [← hW6] at hSr ⊢
   clear hW6
   have c0 := hSr.cell 4 rfl 0 rfl
   have c1 := hSr.cell 4 rfl 1 rfl
   have c2 := hSr.cell 3 rfl 0 rfl
   have c3 := hSr.cell 3 rfl 1 rfl
   have c4 := hSr.cell 0 rfl 0 rfl
   have c5 := hSr.cell 0 rfl 1 rfl
   have f0 := hSr.frozen 4 rfl 0
   have f1 := hSr.frozen 4 rfl 1
   have f2 := hSr.frozen 3 rfl 0
   have f3 := hSr.frozen 3 rfl 1
   go_region
   have hS9 := ((((hSr.set 4 rfl 0 (.int .i64 b)).set 4 rfl 1 (.slice none 0 0)).set 3 rfl 0 (.int .i64 (a % b))).set 3 rfl 1 (.slice none 0 0)).drew
   go_wp2
   go_roundg ((a % b).toNat)
   case measure => rw [HGK.out]; omega
   case rel => exact ⟨b, a % b, rfl, hb0, hb1', hr0, by omega, by show _ = _; rw [← HG.out]; exact gcd_step ha0 hb0, hS9.pick [2, 3, 4] (by decide) _ rfl⟩

/-- the quotient of two small numbers. -/
theorem Make_any (x y : Int) (w : World) (h0 : 0 ≤ x) (h1 : x ≤ 4611686018427387904) (h2 : 0 < y) (h3 : y ≤ 4611686018427387904) :
  Calls Tryz.prog 104 #[iV x, iV y] w fun r w' => r = .returned (fV (x / Int.gcd x y) (y / Int.gcd x y)) ∧ Below w.heap.size w w' := by
 have hs : sgn y = 1 := by simp [sgn]; omega
 have HS1 := fun w => Sign_any y w
 rw [hs] at HS1
 have HSG := hid HS1; clear HS1 hs
 have heq := fun (w : World) (a : Option Addr) (n c : Nat) => Lib.run_eql_slice_nil (P := Tryz.prog) w 102 165 a n c 0 0 Tryz.underlying102
 by_cases hy : y = 1
 ·subst hy
  have e : Int.gcd x 1 = 1 := by simp
  rw [e]
  clear e
  go_enter Tryz.func104, Tryz.ntmps104
  go_wp2_with fail
  have hS := (((SL.nil w).box (.cells #[.int .i64 x, .slice none 0 0] 104)).box (.cells #[.int .i64 1, .slice none 0 0] 104)).box (.cells #[.int .i64 0, .slice none 0 0, .int .i64 0, .slice none 0 0] 106)
  simp only [World.size_alloc] at hS
  refine (HSG.out _).mono ?_
  rintro e w1 ⟨rfl, hb1⟩
  replace hS := hS.mono hb1
  have q1 := (hS.blk 1 rfl).1
  have q2 := (hS.blk 2 rfl).1
  go_wp2_with (first | (with_reducible refine wpList_ldB (by first | exact F_int | exact F_u64s) wU wU (by assumption) wU ?_) | (with_reducible refine wpList_ldS (n := 2) (us := #[_, _]) A_int kR wU wU (by assumption) wU wU ?_) | ((with_reducible refine wpList_stoR (us := #[.int .i64 x, .slice none 0 0, .int .i64 1, .slice none 0 0]) 0 wU wU (hS) wU kR wU wU ?_); intro w2 hS2))
  refine bodyPost_ret (results_cell rfl rfl A_frac kR (hS2.blk 0 rfl).1) rfl ⟨?_, hS2.b⟩
  simp
 ·have hne : (y == 1) = false := by simpa using hy
  have hg0 : 0 < Int.gcd x y := Int.gcd_pos_of_ne_zero_right _ (by omega)
  have hg1 : (Int.gcd x y : Int) ≤ y := Int.le_of_dvd h2 (Int.gcd_dvd_right ..)
  obtain ⟨g, hg⟩ : ∃ g : Int, g = Int.gcd x y := ⟨_, rfl⟩
  have hG := fun w => Gcd_any x y w h0 h1 (by omega) h3
  rw [← hg] at hG ⊢
  have hg0' : 0 < g := by omega
  have hg1' : g ≤ y := by omega
  have HG := hid hG; clear hG
  clear hg hg0 hg1
  go_enter Tryz.func104, Tryz.ntmps104
  go_wp2_with fail
  have hS := (((SL.nil w).box (.cells #[.int .i64 x, .slice none 0 0] 104)).box (.cells #[.int .i64 y, .slice none 0 0] 104)).box (.cells #[.int .i64 0, .slice none 0 0, .int .i64 0, .slice none 0 0] 106)
  simp only [World.size_alloc] at hS
  refine (HSG.out _).mono ?_
  rintro e w1 ⟨rfl, hb1⟩
  replace hS := hS.mono hb1
  have q1 := (hS.blk 1 rfl).1
  have q2 := (hS.blk 2 rfl).1
  go_wp2_with (first | (with_reducible refine wpList_ldB (by first | exact F_int | exact F_u64s) wU wU (by assumption) wU ?_) | (with_reducible refine wpList_ldS (n := 2) (us := #[_, _]) A_int kR wU wU (by assumption) wU wU ?_))
  refine (HG.out _).mono ?_
  rintro e w2 ⟨rfl, hb2⟩
  replace hS := hS.mono hb2
  clear q1 q2
  go_wp2_with fail
  replace hS := hS.box (.cells #[.int .i64 g, .slice none 0 0] 104)
  have q0 := (hS.blk 0 rfl).1
  have q1 := (hS.blk 2 rfl).1
  have q2 := (hS.blk 3 rfl).1
  refine wp_region_qt 7 kR kR ?_
  simp only [List.take_succ_cons, List.take_zero, List.drop_succ_cons, List.drop_zero]
  repeat (first | ((refine wpB_call (iV (x / g)) wU (fun w' => ?_) (fun w' hw' => Quo_any x g w' h0 h1 hg0' (by omega)) ?_); (focus (go_simp; done)); (try simp only [Act.put, pA, pB, pC])) | ((refine wpB_call (iV (y / g)) wU (fun w' => ?_) (fun w' hw' => Quo_any y g w' (by omega) h3 hg0' (by omega)) ?_); (focus (go_simp; done)); (try simp only [Act.put, pA, pB, pC])) |  ((with_reducible refine wpB_load (by first | exact F_int | exact F_u64s) wU wU (by assumption) wU ?_); (try simp only [Act.put, pA, pB, pC])) | ((with_reducible refine wpB_loadS (n := 2) (us := #[_, _]) A_int kR wU wU (by assumption) wU wU ?_); (try simp only [Act.put, pA, pB, pC])) | ((with_reducible refine wpB_loadS (n := 4) (us := #[_, _, _, _]) A_frac kR wU wU (by assumption) wU wU ?_); (try simp only [Act.put, pA, pB, pC])) | ((refine wpQ_oneG ?_ wU (fun w' => ?_) ?_); rotate_left; (go_simp; rfl); (try simp only [Act.put, pA, pB, pC])))
  refine wpQuiet_nil ?_
  intro w3 hb3
  replace hS := hS.mono hb3
  clear q0 q1 q2
  go_wp2_with ((with_reducible refine wpList_stoR (us := #[.int .i64 (x / g), .slice none 0 0, .int .i64 (y / g), .slice none 0 0]) 1 wU wU (hS) wU kR wU wU ?_); intro w4 hS2)
  exact bodyPost_ret (results_cell rfl rfl A_frac kR (hS2.blk 1 rfl).1) rfl ⟨rfl, hS2.b⟩
end Go.Proofs.YtglpfpdomnllkaaGreatDoor

namespace Go.Proofs.YtglpfpdomnllkaaGreatDoor
open Go.RowKit Go.Shelf
set_option maxHeartbeats 1000000
set_option maxRecDepth 100000

theorem Inv_any (p q : Int) (w : World) (h0 : 0 < p) (h1 : p ≤ 4611686018427387904) (h2 : 0 ≤ q) (h3 : q ≤ 4611686018427387904) :
  Calls Tryz.prog 103 #[fV p q] w fun r w' => r = .returned (fV (q / Int.gcd q p) (p / Int.gcd q p)) ∧ Below w.heap.size w w' := by
 have HM := hid (fun w => Make_any q p w h2 h3 h0 h1)
 obtain ⟨g, hg⟩ : ∃ g : Int, g = Int.gcd q p := ⟨_, rfl⟩
 rw [← hg] at HM ⊢
 clear hg
 go_enter Tryz.func103, Tryz.ntmps103
 go_wp2_with fail
 refine (HM.out _).mono ?_
 rintro e w1 ⟨rfl, hb1⟩
 have hS := ((SL.nil w).box (.cells #[.int .i64 p, .slice none 0 0, .int .i64 q, .slice none 0 0] 106)).box (.cells #[.int .i64 0, .slice none 0 0, .int .i64 0, .slice none 0 0] 106)
 simp only [World.size_alloc] at hS
 replace hS := hS.mono hb1
 go_wp2_with ((with_reducible refine wpList_stoR (us := #[.int .i64 (q / g), .slice none 0 0, .int .i64 (p / g), .slice none 0 0]) 0 wU wU (hS) wU kR wU wU ?_); intro w4 hS2)
 exact bodyPost_ret (results_cell rfl rfl A_frac kR (hS2.blk 0 rfl).1) rfl ⟨rfl, hS2.b⟩

theorem nsize_any (n : Int) (w : World) (h0 : 0 ≤ n) (h1 : n ≤ 4611686018427387904) :
  Calls Tryz.prog 131 #[.int .i64 n] w fun r w' => r = .returned (.int .u64 n) ∧ w = w' := by
 go_enter Tryz.func131, Tryz.ntmps131
 go_wp2
 go_ret
 exact ⟨by congr 2 <;> omega, rfl⟩
theorem mul64_any (x y : Int) (hx : 0 ≤ x) (hy : 0 ≤ y) (h : x * y ≤ 4611686018427387904) (hx2 : x ≤ 4611686018427387904) (hy2 : y ≤ 4611686018427387904) (w : World) :
  Calls Tryz.prog 118 #[.int .u64 x, .int .u64 y] w fun e w' => e = .returned (.tuple #[.int .u64 0, .int .u64 (x * y)]) ∧ w = w' := by
 obtain ⟨a, rfl⟩ := Int.eq_ofNat_of_zero_le hx
 obtain ⟨b, rfl⟩ := Int.eq_ofNat_of_zero_le hy
 have h' : a * b ≤ 4611686018427387904 := by have : ((a * b : Nat) : Int) ≤ 4611686018427387904 := by rw [Int.natCast_mul]; exact h
                                             omega
 refine (Any.bits_Mul64 { Tryz.lays212 with } a b (by omega) (by omega) w).mono ?_
 rintro e w' ⟨rfl, rfl⟩
 have e1 : a * b / 18446744073709551616 = 0 := Nat.div_eq_of_lt (by omega)
 have e2 : a * b % 18446744073709551616 = a * b := Nat.mod_eq_of_lt (by omega)
 rw [e1, e2]
 exact ⟨by rw [Int.natCast_mul]; rfl, rfl⟩

theorem IMul_any (x y : Int) (w : World) (h0 : 0 ≤ x) (h1 : x ≤ 4611686018427387904) (h2 : 0 ≤ y) (h3 : y ≤ 4611686018427387904) (h : x * y ≤ 4611686018427387904) :
  Calls Tryz.prog 105 #[iV x, iV y] w fun r w' => r = .returned (iV (x * y)) ∧ Below w.heap.size w w' := by
 have hp0 : 0 ≤ x * y := Int.mul_nonneg h0 h2
 have HM := hid (mul64_any x y h0 h2 h h1 h3)
 obtain ⟨z, hz⟩ : ∃ z, z = x * y := ⟨_, rfl⟩
 rw [← hz] at HM h hp0 ⊢
 clear hz
 have hx : decide (x < 0) = false := by simp; omega
 have hy : decide (y < 0) = false := by simp; omega
 have heq := fun (w : World) (a : Option Addr) (n c : Nat) => Lib.run_eql_slice_nil (P := Tryz.prog) w 102 165 a n c 0 0 Tryz.underlying102
 go_enter Tryz.func105, Tryz.ntmps105
 go_wp2
 have hS := (((SL.nil w).box (.cells #[.int .i64 x, .slice none 0 0] 104)).box (.cells #[.int .i64 y, .slice none 0 0] 104)).box (.cells #[.int .i64 0, .slice none 0 0] 104)
 simp only [World.size_alloc] at hS
 have q1 := (hS.blk 1 rfl).1
 have q2 := (hS.blk 2 rfl).1
 refine wp_region_q kR kR ?_
 repeat (first | ((refine wpB_call (.int .u64 x) wU (fun w' => ?_) (fun w' hw' => calls_below (nsize_any x w' h0 h1)) ?_); (focus (go_simp; done)); (try simp only [Act.put, pA, pB, pC])) | ((refine wpB_call (.int .u64 y) wU (fun w' => ?_) (fun w' hw' => calls_below (nsize_any y w' h2 h3)) ?_); (focus (go_simp; done)); (try simp only [Act.put, pA, pB, pC])) | ((refine wpB_call (.tuple #[.int .u64 0, .int .u64 z]) wU (fun w' => ?_) (fun w' hw' => calls_below (HM.out w')) ?_); (focus (go_simp; done)); (try simp only [Act.put, pA, pB, pC])) |  ((with_reducible refine wpB_load (by first | exact F_int | exact F_u64s) wU wU (by assumption) wU ?_); (try simp only [Act.put, pA, pB, pC])) | ((with_reducible refine wpB_loadS (n := 2) (us := #[_, _]) A_int kR wU wU (by assumption) wU wU ?_); (try simp only [Act.put, pA, pB, pC])) | ((with_reducible refine wpB_loadS (n := 4) (us := #[_, _, _, _]) A_frac kR wU wU (by assumption) wU wU ?_); (try simp only [Act.put, pA, pB, pC])) | ((refine wpQ_oneG ?_ wU (fun w' => ?_) ?_); rotate_left; (go_simp; rfl); (try simp only [Act.put, pA, pB, pC])))
 refine wpQuiet_nil ?_
 intro w1 hb1
 replace hS := hS.mono hb1
 clear q1 q2
 have q1 := (hS.blk 1 rfl).1
 have q2 := (hS.blk 2 rfl).1
 go_wp2_with (first | (with_reducible refine wpList_ldB (by first | exact F_int | exact F_u64s) wU wU (by assumption) wU ?_) | ((with_reducible refine wpList_stoR (us := #[.int .i64 z, .slice none 0 0]) 0 wU wU (hS) wU kR wU wU ?_); intro w2 hS2))
 exact bodyPost_ret (results_cell rfl rfl A_int kR (hS2.blk 0 rfl).1) rfl ⟨rfl, hS2.b⟩

theorem FMul_any (a b c d : Int) (w : World) (a0 : 0 ≤ a) (a1 : a ≤ 4611686018427387904) (b0 : 0 < b) (b1 : b ≤ 4611686018427387904) (c0 : 0 ≤ c) (c1 : c ≤ 4611686018427387904) (d0 : 0 < d) (d1 : d ≤ 4611686018427387904) (hac : a * c ≤ 4611686018427387904) (hbd : b * d ≤ 4611686018427387904) :
  Calls Tryz.prog 71 #[fV a b, fV c d] w fun r w' => r = .returned (fV (a * c / Int.gcd (a * c) (b * d)) (b * d / Int.gcd (a * c) (b * d))) ∧ Below w.heap.size w w' := by
 have m0 : 0 ≤ a * c := Int.mul_nonneg a0 c0
 have m1 : 0 < b * d := Int.mul_pos b0 d0
 have HM := hid (fun w => Make_any (a * c) (b * d) w m0 hac m1 hbd)
 have HA := hid (fun w => IMul_any a c w a0 a1 c0 c1 hac)
 have HB := hid (fun w => IMul_any b d w (by omega) b1 (by omega) d1 hbd)
 obtain ⟨x, hx⟩ : ∃ x, x = a * c / Int.gcd (a * c) (b * d) := ⟨_, rfl⟩
 obtain ⟨y, hy⟩ : ∃ y, y = b * d / Int.gcd (a * c) (b * d) := ⟨_, rfl⟩
 rw [← hx, ← hy] at HM
 rw [← hx, ← hy]
 clear hx hy
 obtain ⟨p, hp⟩ : ∃ p, p = a * c := ⟨_, rfl⟩
 obtain ⟨q, hq⟩ : ∃ q, q = b * d := ⟨_, rfl⟩
 rw [← hp] at HM HA
 rw [← hq] at HM HB
 clear hp hq m0 m1 hac hbd
 go_enter Tryz.func71, Tryz.ntmps71
 go_wp2
 have hS := (((SL.nil w).box (.cells #[.int .i64 a, .slice none 0 0, .int .i64 b, .slice none 0 0] 106)).box (.cells #[.int .i64 c, .slice none 0 0, .int .i64 d, .slice none 0 0] 106)).box (.cells #[.int .i64 0, .slice none 0 0, .int .i64 0, .slice none 0 0] 106)
 simp only [World.size_alloc] at hS
 have q1 := (hS.blk 1 rfl).1
 have q2 := (hS.blk 2 rfl).1
 refine wp_region_qt 11 kR kR ?_
 simp only [List.take_succ_cons, List.take_zero, List.drop_succ_cons, List.drop_zero]
 repeat (first | ((refine wpB_call (iV p) wU (fun w' => ?_) (fun w' hw' => HA.out w') ?_); (focus (go_simp; done)); (try simp only [Act.put, pA, pB, pC])) | ((refine wpB_call (iV q) wU (fun w' => ?_) (fun w' hw' => HB.out w') ?_); (focus (go_simp; done)); (try simp only [Act.put, pA, pB, pC])) | ((refine wpB_call (fV x y) wU (fun w' => ?_) (fun w' hw' => HM.out w') ?_); (focus (go_simp; done)); (try simp only [Act.put, pA, pB, pC])) |  ((with_reducible refine wpB_load (by first | exact F_int | exact F_u64s) wU wU (by assumption) wU ?_); (try simp only [Act.put, pA, pB, pC])) | ((with_reducible refine wpB_loadS (n := 2) (us := #[_, _]) A_int kR wU wU (by assumption) wU wU ?_); (try simp only [Act.put, pA, pB, pC])) | ((with_reducible refine wpB_loadS (n := 4) (us := #[_, _, _, _]) A_frac kR wU wU (by assumption) wU wU ?_); (try simp only [Act.put, pA, pB, pC])) | ((refine wpQ_oneG ?_ wU (fun w' => ?_) ?_); rotate_left; (go_simp; rfl); (try simp only [Act.put, pA, pB, pC])))
 refine wpQuiet_nil ?_
 intro w1 hb1
 replace hS := hS.mono hb1
 go_wp2_with ((with_reducible refine wpList_stoR (us := #[.int .i64 x, .slice none 0 0, .int .i64 y, .slice none 0 0]) 0 wU wU (hS) wU kR wU wU ?_); intro w2 hS2)
 exact bodyPost_ret (results_cell rfl rfl A_frac kR (hS2.blk 0 rfl).1) rfl ⟨rfl, hS2.b⟩
end Go.Proofs.YtglpfpdomnllkaaGreatDoor

namespace Go.Proofs.YtglpfpdomnllkaaGreatDoor
open Go.RowKit
set_option maxHeartbeats 1000000
set_option maxRecDepth 100000

def itoaB (n : Int) : ByteArray := ⟨(Lib.itoa n).toArray⟩
/-- from a world on, Itoa answers at n. -/
def ItoaOk (w : World) (n : Int) : Prop := ∀ w', Below w.heap.size w w' → Calls Tryz.prog 151 #[.int .i64 n] w' fun e w'' => e = .returned (.string (itoaB n)) ∧ Below w'.heap.size w' w''
theorem ItoaOk.below {w w' : World} {n : Int} (h : ItoaOk w n) (hb : Below w.heap.size w w') : ItoaOk w' n := fun W hW => h W (bnext hb hW)
def badM (m : Int × Int) : Prop := m.1 < 0 ∨ m.2 < 0 ∨ 999999999 < m.1 ∨ 999999999 < m.2
instance (m : Int × Int) : Decidable (badM m) := inferInstanceAs (Decidable (_ ∨ _ ∨ _ ∨ _))
end Go.Proofs.YtglpfpdomnllkaaGreatDoor

namespace Go.Proofs.YtglpfpdomnllkaaGreatDoor
open Go.RowKit
set_option maxHeartbeats 1000000
set_option maxRecDepth 100000

end Go.Proofs.YtglpfpdomnllkaaGreatDoor

namespace Go.Proofs.YtglpfpdomnllkaaGreatDoor
open Go.RowKit Go.Shelf
attribute [local go_sem] Oper.semAt_some
set_option maxHeartbeats 2000000
set_option maxRecDepth 100000

abbrev Slot (n : Nat) := { x : Int // 0 ≤ x ∧ x < n }
def slotV {n : Nat} (x : Slot n) : Array Value := #[.int .i64 x.1]

/-- this block is as it was. -/
def KeepAt (b : Nat) (A B : World) : Prop := B.heap[b]? = A.heap[b]?
theorem KeepAt.cell {b o : Nat} {A B : World} (h : KeepAt b A B) : B.cell? ⟨b, o, none⟩ = A.cell? ⟨b, o, none⟩ := World.cell?_of_block (w := A) h

end Go.Proofs.YtglpfpdomnllkaaGreatDoor

namespace Go.Proofs.YtglpfpdomnllkaaGreatDoor
open Go.RowKit Go.Shelf
attribute [local go_sem] Oper.semAt_some
set_option maxHeartbeats 2000000
set_option maxRecDepth 100000

end Go.Proofs.YtglpfpdomnllkaaGreatDoor

namespace Go.Proofs.YtglpfpdomnllkaaGreatDoor
open Go.RowKit Go.Shelf
attribute [local go_sem] Oper.semAt_some
set_option maxHeartbeats 2000000
set_option maxRecDepth 100000

theorem Reps.keep {α : Type} {c : α → Value} {sz : Nat} {w w' : World} {a : Option Addr} {cap : Nat} {l : List α} (h : Reps c sz w a cap l) (hk : ∀ b, a = some b → KeepAt b.block w w') : Reps c sz w' a cap l := by
 obtain ⟨h1, h2, h3, h4, h5⟩ := h
 refine ⟨h1, h2, h3, h4, fun j u hj => ?_⟩
 obtain ⟨b, o, e, hc⟩ := h5 j u hj
 exact ⟨b, o, e, (hk _ e).cell.trans hc⟩
/-- what the iterator must find again. -/
structure CyKeep (bi bp : Nat) (a : Option Addr) (A B : World) : Prop where
 i : KeepAt bi A B
 p : KeepAt bp A B
 s : ∀ b, a = some b → KeepAt b.block A B
theorem CyKeep.trans {bi bp : Nat} {a : Option Addr} {A B C : World} (h : CyKeep bi bp a A B) (k : CyKeep bi bp a B C) : CyKeep bi bp a A C :=
 ⟨Eq.trans k.i h.i, Eq.trans k.p h.p, fun b e => Eq.trans (k.s b e) (h.s b e)⟩

section
variable {p : List Int} (hp : IsP p) {i : Int} (h0 : 0 ≤ i) (h1 : i < p.length)
def itS (k : Nat) : Slot p.length := ⟨itP p i k, itP_rng hp h0 h1 k⟩
def orbS (d : Nat) : List (Slot p.length) := (List.range d).map (itS hp h0 h1)
theorem orbS_succ (d : Nat) : orbS hp h0 h1 (d + 1) = orbS hp h0 h1 d ++ [itS hp h0 h1 d] := by simp [orbS, List.range_succ]
theorem orbS_len (d : Nat) : (orbS hp h0 h1 d).length = d := by simp [orbS]
theorem orbS_val {d : Nat} (hd : Ord p i d) : (orbS hp h0 h1 d).map (·.1) = orb p i := by rw [orb_eq hd]; simp [orbS, itS, Function.comp_def]

theorem cycle1_in (m l bi bp cap : Nat) (a : Option Addr) (d : Nat) (hd : Ord p i d) (hn2 : p.length ≤ 1048576) (hm : 1 ≤ m) (J Jx : List (Slot p.length) → World → Prop)
  (hY : ∀ pre (x : Slot p.length) W, J pre W → pre.length < p.length → YieldAt Fence.wide (m - 1) Tryz.prog l (slotV x) W fun e W' =>
   (e = .returned (.bool true) ∧ J (pre ++ [x]) W' ∧ CyKeep bi bp a W W') ∨ (e = .returned (.bool false) ∧ Jx (pre ++ [x]) W'))
  (W : World) (hWi : W.cell? ⟨bi, 0, none⟩ = some (.int .i64 i)) (hWp : W.cell? ⟨bp, 0, none⟩ = some (.slice a p.length cap)) (hS : Ints W a cap p) (hJ0 : J [] W) :
  CallsIn Fence.wide m Tryz.prog 126 #[.func (.yield l) #[] #[], .pointer (some ⟨bi, 0, none⟩), .pointer (some ⟨bp, 0, none⟩)] W fun e W' => (∃ v, e = .returned v) ∧
   ((∃ ys, ys = orbS hp h0 h1 d ∧ J ys W') ∨ (∃ pre, (∃ k, pre = orbS hp h0 h1 k) ∧ Jx pre W')) := by
 refine callsIn_of_wp Tryz.func126 rfl trivial ?_ rfl
 simp only [Tryz.ntmps126, List.size_toArray, List.length_cons, List.length_nil, Nat.reduceAdd, Nat.reduceSub, Array.replicate_succ, Array.replicate_zero, List.push_toArray, List.append_toArray, List.nil_append, List.cons_append]
 gi_wp2
 gi_loopg [4] d (fun g x wr => ∃ k : Nat, k + g = d ∧ 0 < g ∧ x = .int .i64 (itP p i k) ∧ J (orbS hp h0 h1 k) wr ∧ wr.cell? ⟨bi, 0, none⟩ = some (.int .i64 i) ∧ wr.cell? ⟨bp, 0, none⟩ = some (.slice a p.length cap) ∧ Ints wr a cap p)
 case atStart => exact ⟨0, by omega, hd.pos, rfl, hJ0, hWi, hWp, hS⟩
 case round =>
  obtain ⟨k, hkg, hg0, rfl, hJs, hci, hcp, hSr⟩ := hrel
  have hdl := hd.le
  obtain ⟨fn, tmps, assign, body, hy, hR⟩ := hY _ (itS hp h0 h1 k) wr hJs (by rw [orbS_len]; omega)
  unfold slotV itS at hy
  dsimp only at hy
  gi_wp2
  refine hR.mono ?_
  rintro e W3 (⟨rfl, hJ3, hk3⟩ | ⟨rfl, hJx3⟩)
  ·have hci3 := hk3.i.cell.trans hci
   have hcp3 := hk3.p.cell.trans hcp
   have hS3 := hSr.keep hk3.s
   clear hci hcp hSr hJs hR hy
   have hr := itP_rng hp h0 h1 k
   obtain ⟨bb, oo, rfl, hcx⟩ := hS3.cells (by decide) 0 (itP p i k).toNat (by omega)
   have hcx := hcx 0 (.int .i64 (itP p i (k + 1))) rfl
   simp only [Nat.mul_one, Nat.add_zero] at hcx
   by_cases hlast : k + 1 = d
   ·have hb : itP p i (k + 1) = i := by rw [hlast]; exact hd.back
    rw [hb] at hcx
    have HB := hid hb; clear hb
    have HL := hid hlast; clear hlast
    gi_wp2
    refine bodyPost_ret (results_none rfl _ _ _) rfl ?_
    refine ⟨⟨_, rfl⟩, .inl ?_⟩
    first | exact ⟨_, rfl, by rw [← HL.out, orbS_succ]; exact hJ3⟩ | (rw [← HL.out, orbS_succ]; exact hJ3)
   ·have hne : (itP p i (k + 1) == i) = false := by simpa using hd.min (k + 1) (by omega) (by omega)
    gi_wp2
    gi_roundg (gk - 1)
    case measure => omega
    case rel => exact ⟨k + 1, by omega, by omega, rfl, by rw [orbS_succ]; exact hJ3, hci3, hcp3, hS3⟩
  ·gi_wp2
   go_end0
   refine ⟨⟨_, rfl⟩, .inr ⟨_, ⟨k + 1, (orbS_succ hp h0 h1 k).symm⟩, hJx3⟩⟩

theorem cycle_stops (m bi bp cap : Nat) (a : Option Addr) (d : Nat) (hd : Ord p i d) (hn2 : p.length ≤ 1048576) (hm : 1 ≤ m) (w : World) (hbi : bi < w.heap.size) (hbp : bp < w.heap.size)
  (hWi : w.cell? ⟨bi, 0, none⟩ = some (.int .i64 i)) (hWp : w.cell? ⟨bp, 0, none⟩ = some (.slice a p.length cap)) (hS : Ints w a cap p) :
  SeqStopsK Fence.wide m Tryz.prog 126 #[.pointer (some ⟨bi, 0, none⟩), .pointer (some ⟨bp, 0, none⟩)] (slotV (n := p.length)) (CyKeep bi bp a) (fun ys => ys = orbS hp h0 h1 d) (fun _ => True) p.length w := fun l J Jx W hW _ _ hY hJ0 => by
 have c1 := (hW.cell (p := ⟨bi, 0, none⟩) hbi).trans hWi
 have c2 := (hW.cell (p := ⟨bp, 0, none⟩) hbp).trans hWp
 refine (cycle1_in hp h0 h1 m l bi bp cap a d hd hn2 hm J Jx hY W c1 c2 (hS.below hW) hJ0).mono ?_
 rintro e W' ⟨he, ⟨ys, hys, hj⟩ | ⟨pre, _, hj⟩⟩
 ·exact ⟨he, .inl ⟨ys, hys, hj⟩⟩
 ·exact ⟨he, .inr ⟨pre, trivial, hj⟩⟩
end

theorem cycle_any (a : Option Addr) (n cap : Nat) (i : Int) (w : World) :
  Calls Tryz.prog 102 #[.slice a n cap, .int .i64 i] w fun r w' =>
   r = .returned (.func (.func 126) #[] #[.pointer (some ⟨w.heap.size + 1, 0, none⟩), .pointer (some ⟨w.heap.size, 0, none⟩)]) ∧ w' = (w.alloc (.cells #[.slice a n cap] 22)).alloc (.cells #[.int .i64 i] 3) := by
 go_enter Tryz.func102, Tryz.ntmps102
 go_wp2
 go_ret
 exact ⟨rfl, rfl⟩
end Go.Proofs.YtglpfpdomnllkaaGreatDoor

namespace Go.Proofs.YtglpfpdomnllkaaGreatDoor
open Go.RowKit Go.Shelf
attribute [local go_sem] Oper.semAt_some
set_option maxHeartbeats 2000000
set_option maxRecDepth 100000

abbrev SlH := Option Addr × Nat × Nat
abbrev cSl (x : SlH) : Value := .slice x.1 x.2.1 x.2.2
theorem cSl1 (x : SlH) : (cSl x).cells = #[cSl x] := rfl
theorem cSlS (x : SlH) : (cSl x).cells.size = 1 := rfl
theorem cSlO (x : SlH) : ∀ u ∈ (cSl x).cells.toList, u.oneCell' = true := by intro u hu; simp [cSl, Value.cells] at hu; subst hu; rfl
theorem E_sls : ETy Tryz.prog 25 22 (.slice none 0 0) 1 24 := ⟨Tryz.underlying25, by kernel_rfl, rfl, by decide⟩
theorem F_sl : Flat Tryz.prog 22 := ⟨_, Tryz.underlying22, rfl⟩
theorem E_bools : ETy Tryz.prog 147 4 (cBool false) 1 1 := ⟨Tryz.underlying147, by kernel_rfl, rfl, by decide⟩
theorem F_bool : Flat Tryz.prog 4 := ⟨_, Tryz.underlying4, rfl⟩

def inP (q : SlH × List Int) : Pc := pOwn cInt 1 3 (cSl q.1) q.2
def valS {n : Nat} (pre : List (Slot n)) : List Int := pre.map (·.1)
theorem valS_snoc {n : Nat} (pre : List (Slot n)) (x : Slot n) : valS (pre ++ [x]) = valS pre ++ [x.1] := by simp [valS]
theorem valS_len {n : Nat} (pre : List (Slot n)) : (valS pre).length = pre.length := by simp [valS]
def markS {n : Nat} (S : List Bool) (pre : List (Slot n)) : List Bool := pre.foldl (fun s x => s.set x.1.toNat true) S
theorem markS_snoc {n : Nat} (S : List Bool) (pre : List (Slot n)) (x : Slot n) : markS S (pre ++ [x]) = (markS S pre).set x.1.toNat true := by simp [markS]
theorem markS_len {n : Nat} : ∀ (pre : List (Slot n)) (S : List Bool), (markS S pre).length = S.length
 | [], S => rfl
 | x :: r, S => by rw [markS, List.foldl_cons]; exact (markS_len r _).trans (by simp)
theorem atD_setB (S : List Bool) (k x : Int) (hk : 0 ≤ k) (hx : 0 ≤ x) (hl : k < S.length) : atD false (S.set k.toNat true) x = (atD false S x || decide (x = k)) := by
 unfold atD
 by_cases e : x = k
 ·subst e
  have : x.toNat < S.length := by omega
  simp [this]
 ·have : ¬ k.toNat = x.toNat := by omega
  simp [List.getD_eq_getElem?_getD, List.getElem?_set_ne this, e]
theorem markS_at {n : Nat} : ∀ (pre : List (Slot n)) (S : List Bool), S.length = n → ∀ x : Int, 0 ≤ x → atD false (markS S pre) x = (atD false S x || decide (x ∈ valS pre))
 | [], S, _, x, _ => by simp [markS, valS]
 | y :: r, S, h, x, hx => by
   have := markS_at r (S.set y.1.toNat true) (by simpa using h) x hx
   rw [markS, List.foldl_cons]
   rw [markS] at this
   rw [this, atD_setB S y.1 x y.2.1 hx (by rw [h]; exact y.2.2), Bool.or_assoc]
   congr 1
   rw [Bool.eq_iff_iff]; simp [valS]
/-- what holds at the head of a round. -/
def CyI (w : World) (p : List Int) (k : Nat) (ad : Option Addr) (Hs : Nat) (S : List Bool) (ov : Value) (qs : List (SlH × List Int)) (Ds : List Nat) (wr : World) : Prop :=
 S.length = p.length ∧ (∀ x : Int, 0 ≤ x → x < p.length → atD false S x = decide (x ∈ (cycK p k).flatten)) ∧ qs.map Prod.snd = cycK p k ∧
  SL w.heap.size w wr (pBlk Hs (.cells #[.slice ad p.length p.length] 147) :: pOwn cBool 1 4 (.slice ad p.length p.length) S :: pOwn cSl 1 22 ov (qs.map Prod.fst) :: (qs.map inP ++ Ds.map pMark))
theorem cycK_in {p : List Int} {k : Nat} (h : (k : Int) ∈ (cycK p k).flatten) : cycK p (k + 1) = cycK p k := by rw [cycK, if_pos h]
theorem cycK_out {p : List Int} {k : Nat} (h : ¬ (k : Int) ∈ (cycK p k).flatten) : cycK p (k + 1) = cycK p k ++ [orb p k] := by rw [cycK, if_neg h]
theorem KeepAt.of_grown {b : Nat} {A B : World} {row : Option Nat} (hg : A.grownBy B row) (hb : b < A.heap.size) (hne : some b ≠ row) : KeepAt b A B := hg.block b hb hne
theorem KeepAt.trans {b : Nat} {A B C : World} (h : KeepAt b A B) (k : KeepAt b B C) : KeepAt b A C := Eq.trans k h
theorem KeepAt.set {b : Nat} {A : World} {x : Addr} {v : Value} (h : b ≠ x.block) : KeepAt b A (A.setCell x v) := Below.heap_setCell _ _ _ _ h

theorem cycles_any (a : Option Addr) (cap : Nat) (p : List Int) (w : World) (hS : Ints w a cap p) (hp : IsP p) (hn : p.length ≤ 1048576) :
  Calls Tryz.prog 68 #[.slice a p.length cap] w fun r w' => ∃ (v : Value) (qs : List (SlH × List Int)), r = .returned v ∧ qs.map Prod.snd = cycK p p.length ∧ SL w.heap.size w w' (pOwn cSl 1 22 v (qs.map Prod.fst) :: qs.map inP) := by
 have hcap := hS.le
 have hm := hS.max
 refine callsIn_wide.1 (callsIn_of_wp_marks (n := 9) (F := Fence.wide) Tryz.func68 rfl trivial ?_ rfl)
 simp only [Tryz.ntmps68, List.size_toArray, List.length_cons, List.length_nil, Nat.reduceAdd, Nat.reduceSub, Array.replicate_succ, Array.replicate_zero, List.push_toArray, List.append_toArray, List.nil_append, List.cons_append]
 refine wpIn_wide.2 ?_
 have hs0 := SL.nil w
 go_wp2_with ((with_reducible refine wpList_makeL (c := cBool) (p.length) (false) E_bools cBool1 wU wU (by omega) (by omega) (hs0) ?_); intro ad w1 hs1)
 obtain ⟨Hs, hHs⟩ : ∃ x, x = w1.heap.size := ⟨_, rfl⟩
 rw [← hHs]
 have hs2 := hs1.box (.cells #[.slice ad p.length p.length] 147)
 rw [← hHs] at hs2
 have hS2 := hS.below hs2.b
 clear hs1 hHs
 refine wp_loop (fun a' wr => ∃ (k : Nat) (S : List Bool) (ov : Value) (qs : List (SlH × List Int)) (Ds : List Nat) (u5 u6 u7 u14 u15 u16 u17 u18 u19 u20 u21 u22 u23 u24 u25 u26 u27 u28 u29 u30 u31 u32 u33 u34 u35 : Value), a' = { tmps := #[.slice a p.length cap, undef, .slice none 0 0, ov, .pointer (some ⟨Hs, 0, none⟩), u5, u6, u7, .slice a p.length cap, .int .i64 p.length, .slice ad p.length p.length, .slice a p.length cap, .int .i64 p.length, .int .i64 k, u14, u15, u16, u17, u18, u19, u20, u21, u22, u23, u24, u25, u26, u27, u28, u29, u30, u31, u32, u33, u34, u35, undef], defers := Ds.map markOf } ∧ k ≤ p.length ∧ CyI w p k ad Hs S ov qs Ds wr) (fun a' _ => p.length - (intOf (a'.tmps.getD 13 undef)).toNat) ?_ ?_
 ·refine ⟨0, List.replicate p.length false, .slice none 0 0, [], [], undef, undef, undef, undef, undef, undef, undef, undef, undef, undef, undef, undef, undef, undef, undef, undef, undef, undef, undef, undef, undef, undef, undef, undef, undef, rfl, Nat.zero_le _, by simp, ?_, rfl, ?_⟩
  ·intro x h0 h1
   have : x.toNat < p.length := by omega
   simp [atD, cycK, this]
  ·exact ((hs2.nilS (α := SlH) (e := 22) cSlS).pick [1, 2, 0] (by decide) _ rfl)
 ·rintro a' wr ⟨k, S, ov, qs, Ds, u5, u6, u7, u14, u15, u16, u17, u18, u19, u20, u21, u22, u23, u24, u25, u26, u27, u28, u29, u30, u31, u32, u33, u34, u35, rfl, hk, hlen, hsn, hqs, hSL⟩
  have hSr := hS.below hSL.b
  have hqlen : (qs.map Prod.fst).length ≤ k := by
   have h1 := cycK_len p k
   rw [← hqs] at h1; simpa using h1
  by_cases hlt : k < p.length
  ·have hsk := hsn k (by omega) (by omega)
   have HSN := hid hsn; clear hsn
   have HL := hid hlen; clear hlen
   have HQ := hid hqs; clear hqs
   have hsb := hSL.cell 0 rfl 0 rfl
   have hRB := hSL.rd 1 rfl
   by_cases hin : (k : Int) ∈ (cycK p k).flatten
   ·rw [decide_eq_true hin] at hsk
    have HSK := hid hsk; clear hsk
    have HIN := hid hin; clear hin
    go_wp2_with ((with_reducible refine wpList_idxN _ false E_bools F_bool cBool1 wU wU (hRB) (HL.out) oD oD (fun _ => wU) (fun _ => ?_)); rw [HSK.out])
    refine ⟨⟨k + 1, S, ov, qs, Ds, _, _, _, _, _, _, _, _, _, _, _, _, _, _, _, _, _, _, _, _, _, _, _, _, _, rfl, by omega, HL.out, ?_, ?_, hSL⟩, by simp [intOf]; omega⟩
    ·rw [cycK_in HIN.out]; exact HSN.out
    ·rw [cycK_in HIN.out]; exact HQ.out
   ·rw [decide_eq_false hin] at hsk
    have HSK := hid hsk; clear hsk
    have HIN := hid hin; clear hin
    go_wp2_with ((with_reducible refine wpList_idxN _ false E_bools F_bool cBool1 wU wU (hRB) (HL.out) oD oD (fun _ => wU) (fun pidx => ?_)); rw [HSK.out])
    refine (cycle_any _ _ _ _ _).mono ?_
    rintro e w3 ⟨rfl, rfl⟩
    go_wp2_with fail
    obtain ⟨d, hd⟩ := ord_ex hp (i := (k : Int)) (by omega) (by omega)
    have hk0 : (0 : Int) ≤ k := by omega
    have hk1 : (k : Int) < p.length := by omega
    have hS4 := (((hSL.nilS (α := Int) (e := 3) cIntS).box (.cells #[.slice none 0 0] 22)).box (.cells #[.slice a p.length cap] 22)).box (.cells #[.int .i64 k] 3)
    have hcn := hS4.cell 0 rfl 0 rfl
    have hcm := hS4.cell 1 rfl 0 rfl
    simp only [World.size_alloc] at hS4 hcn hcm
    have hmarks : ∀ D ∈ Ds, D < wr.heap.size := by
     intro D hD
     obtain ⟨i, hi, rfl⟩ := List.mem_iff_getElem.1 hD
     exact (hSL.blk (i + qs.length + 3) (k := Ds[i]) (o := .deferred (some [])) (by simp [pMark, hi, List.getElem?_append_right])).2.2
    have hokT : ∀ (lv : Value) (l : List Int) (S' : List Bool), ∀ q ∈ (pBlk (wr.heap.size + 1 + 1) (.cells #[.int .i64 k] 3) :: pBlk (wr.heap.size + 1) (.cells #[.slice a p.length cap] 22) :: pBlk wr.heap.size (.cells #[lv] 22) :: pOwn cInt 1 3 lv l ::
      pBlk Hs (.cells #[.slice ad p.length p.length] 147) :: pOwn cBool 1 4 (.slice ad p.length p.length) S' :: pOwn cSl 1 22 ov (qs.map Prod.fst) :: (qs.map inP ++ Ds.map pMark)), q.okT (wr.heap.size + 1 + 1 + 1) := by
     intro lv l S' q hq
     simp only [List.mem_cons, List.mem_map, List.mem_append] at hq
     rcases hq with rfl | rfl | rfl | rfl | rfl | rfl | rfl | ⟨z, _, rfl⟩ | ⟨D, hD, rfl⟩
     ·exact okT_cells
     ·exact okT_cells
     ·exact okT_cells
     ·exact okT_own
     ·exact okT_cells
     ·exact okT_own
     ·exact okT_own
     ·exact okT_own
     ·exact okT_lt (by have := hmarks D hD; omega)
    have HOK := hid hokT; clear hokT
    have hzr := hSL.z
    have hal : ∀ b, a = some b → b.block < w.heap.size := by
     intro b e
     obtain ⟨b1, o1, e1, hc⟩ := hS.cells (by decide) 0 k hlt
     have hc := hc 0 _ rfl
     rw [e] at e1; cases e1
     have := World.block_lt_of_cell? w _ hc
     exact this
    refine (wpIn_wide (n := 9)).1 ?_
    refine wpIn_rangeFunc_ownF rfl (by decide) (gf := 126) (lb := #[.pointer (some ⟨wr.heap.size + 1 + 1, 0, none⟩), .pointer (some ⟨wr.heap.size + 1, 0, none⟩)]) rfl trivial (enters_of Tryz.func126 kR rfl)
     (cycle_stops hp hk0 hk1 8 (wr.heap.size + 1 + 1) (wr.heap.size + 1) cap a d hd hn (by decide) _ (by simp) (by simp) hcn hcm (hSr.below ((((Below.refl _ _).alloc (Nat.le_refl _) _).alloc (by simp) _).alloc (by simp; omega) _)))
     (fun h1 h2 => h1.trans h2) (fun W j o o' hj _ _ _ => ⟨World.putObj_heap_other (by simp at hj; omega), World.putObj_heap_other (by simp at hj; omega), fun b e => World.putObj_heap_other (by have := hal b e; simp at hj; omega)⟩) (Below.refl _ _) (fun _ => rfl)
     (fun pre W => pre.length ≤ p.length ∧ ∃ lv, SL w.heap.size w W (pBlk (wr.heap.size + 1 + 1) (.cells #[.int .i64 k] 3) :: pBlk (wr.heap.size + 1) (.cells #[.slice a p.length cap] 22) :: pBlk wr.heap.size (.cells #[lv] 22) :: pOwn cInt 1 3 lv (valS pre) ::
      pBlk Hs (.cells #[.slice ad p.length p.length] 147) :: pOwn cBool 1 4 (.slice ad p.length p.length) (markS S pre) :: pOwn cSl 1 22 ov (qs.map Prod.fst) :: (qs.map inP ++ Ds.map pMark)))
     (fun _ _ _ => False) ?hI (fun _ _ _ _ _ hs _ _ => hs) ⟨by simp, .slice none 0 0, hS4⟩
     (fun x => { tmps := #[.slice a p.length cap, undef, .slice none 0 0, ov, .pointer (some ⟨Hs, 0, none⟩), .int .i64 k, .pointer (some ⟨wr.heap.size, 0, none⟩), .int .i64 x.1, .slice a p.length cap, .int .i64 p.length, .slice ad p.length p.length, .slice a p.length cap, .int .i64 p.length, .int .i64 k, .bool true, .int .i64 k, .slice ad p.length p.length, .int .i64 k, pidx, .bool false, .slice a p.length cap, .int .i64 k, .func (.func 126) #[] #[.pointer (some ⟨wr.heap.size + 1 + 1, 0, none⟩), .pointer (some ⟨wr.heap.size + 1, 0, none⟩)], .int .i64 x.1, u24, u25, u26, u27, u28, u29, u30, u31, u32, u33, u34, u35, undef], defers := [] }) ?assign ?body ?done ?stop
    case hI =>
     rintro s A B row ⟨hs1, lv, hs⟩ hg hr
     exact ⟨hs1, lv, hs.turn (C := wr.heap.size + 1 + 1 + 1) (by omega) (HOK.out _ _ _) hg (fun r e => by have := hr r e; simpa using this)⟩
    case assign =>
     intro l x W K hK
     dsimp only [slotV]
     gi_wp2
     exact hK
    case body =>
     rintro q pre x W ⟨hpl, lv, hs⟩ hlt2
     have hx0 := x.2.1
     have hx1 := x.2.2
     have hml := markS_len pre S
     obtain ⟨g, hgad, -, hcell, hfr, hS5⟩ := hs.setOwn cBool1 5 rfl x.1 hx0 (by rw [hml, HL.out]; exact hx1) true
     subst hgad
     have hsb2 := hs.cell 4 rfl 0 rfl
     have hlb := hs.cell 2 rfl 0 rfl
     have hn1 : ¬ g = wr.heap.size := hs.apart 5 2 (by decide) rfl rfl own_at blk_at
     have hn2 : g ≠ wr.heap.size + 1 := hs.apart 5 1 (by decide) rfl rfl own_at blk_at
     have hn3 : g ≠ wr.heap.size + 1 + 1 := hs.apart 5 0 (by decide) rfl rfl own_at blk_at
     have hgB : w.heap.size ≤ g := ((hs.own 5 rfl).lt g rfl).1
     obtain ⟨bv, hbv⟩ : ∃ bv, W.cell? ⟨g, x.1.toNat, none⟩ = some (.bool bv) := by
      have : x.1.toNat < (markS S pre).length := by rw [hml, HL.out]; omega
      exact ⟨(markS S pre)[x.1.toNat], by rw [hcell]; simp [this, cBool]⟩
     have H2 := hid hn2; clear hn2
     have H3 := hid hn3; clear hn3
     have HML := hid hml; clear hml
     clear hcell
     obtain ⟨X, hX⟩ : ∃ X : Int, X = x.1 := ⟨_, rfl⟩
     have hvl := valS_len pre
     have hvl2 : (valS pre).length ≤ 1048576 := by omega
     clear hvl
     gi_wp2_with (((with_reducible refine wpListIn_pushL (y := _) 3 E_ints wU wU (hS5) wU cIntO ⟨rfl, rfl⟩ (by first | with_unfolding_all rfl | simp) wU (by first | omega | (simp; omega)) (by first | omega | (simp; omega)) ?_); intro v6 w6 hP hg6 _); obtain ⟨a6, c6, rfl, _⟩ := hP.slice 3 rfl; have hlb6 := hP.cell 2 rfl 0 rfl; have hlf6 := hP.frozen 2 rfl 0)
     have hne0 := hS5.ne_own 3 0 (by decide) rfl rfl
     have hne1 := hS5.ne_own 3 1 (by decide) rfl rfl
     have hob := (hS5.own 3 rfl)
     refine ⟨((KeepsOthers.setCell _ _ _).trans (KeepsOthers.of_grownBy hg6 fun j o ej hj => ?_)).trans (KeepsOthers.setCell _ _ _), ⟨?_, ?_, fun b e => ?_⟩, by simp; omega, .slice a6 (valS pre ++ [x.1]).length c6, ?_⟩
     ·obtain ⟨o', h1, h2⟩ := own_isCells hob ej
      have h3 := hj.symm.trans h1
      cases h3; exact h2
     ·exact ((KeepAt.set (fun e => H3.out e.symm)).trans (KeepAt.of_grown hg6 (by have := (hS5.blk 0 rfl).2.2; exact this) (fun e => hne0 e.symm))).trans (KeepAt.set (by show _ ≠ wr.heap.size; omega))
     ·exact ((KeepAt.set (fun e => H2.out e.symm)).trans (KeepAt.of_grown hg6 (by have := (hS5.blk 1 rfl).2.2; exact this) (fun e => hne1 e.symm))).trans (KeepAt.set (by show _ ≠ wr.heap.size; omega))
     ·have hb := hal b e
      exact ((KeepAt.set (by show _ ≠ g; omega)).trans (KeepAt.of_grown hg6 (Nat.lt_of_lt_of_le hb hS5.z) (fun e => by have := (hob.lt _ e.symm).1; omega))).trans (KeepAt.set (by show _ ≠ wr.heap.size; omega))
     ·rw [valS_snoc, markS_snoc]
      have := hP.set 2 rfl 0 (.slice a6 (valS pre ++ [x.1]).length c6)
      have e : (valS pre ++ [x.1]).length = (valS pre).length + 1 := by simp
      rw [e] at this ⊢
      exact this
    case done =>
     rintro D ys W hD rfl ⟨hpl, lv, hs0⟩ hK
     have hs := hs0.addMark (C := wr.heap.size + 1 + 1 + 1) (HOK.out _ _ _) (by omega) (by simpa using hD) hK
     clear hs0
     obtain ⟨al, cl, rfl, _⟩ := hs.slice 4 rfl
     have hlb := hs.cell 3 rfl 0 rfl
     dsimp only
     go_wp2_with ((with_reducible refine wpList_pushL (y := ((al, (valS (orbS hp hk0 hk1 d)).length, cl) : SlH)) 7 E_sls wU wU (hs) wU cSlO ⟨rfl, rfl⟩ (by first | with_unfolding_all rfl | simp) wU (by first | omega | (simp; omega)) (by first | omega | (simp; omega)) ?_); intro v4 w4 hP)
     have hR1 := SL.pickA (K := [_, _, _, _, _, _, _, _]) (M := qs.map inP ++ Ds.map pMark) hP [5, 6, 7, 4, 0] (by decide) (by simp) [_, _, _, _, _] rfl
     refine ⟨⟨k + 1, markS S (orbS hp hk0 hk1 d), v4, qs ++ [((al, (valS (orbS hp hk0 hk1 d)).length, cl), valS (orbS hp hk0 hk1 d))], D :: Ds, _, _, _, _, _, _, _, _, _, _, _, _, _, _, _, _, _, _, _, _, _, _, _, _, _, rfl, by omega, ?_, ?_, ?_, ?_⟩, by simp [intOf]; omega⟩
     ·rw [markS_len, HL.out]
     ·intro x h0 h1
      rw [markS_at _ _ HL.out x h0, HSN.out x h0 h1, cycK_out HIN.out]
      rw [show valS (orbS hp hk0 hk1 d) = orb p k from orbS_val hp hk0 hk1 hd]
      simp
     ·rw [List.map_append, HQ.out, cycK_out HIN.out]
      rw [show valS (orbS hp hk0 hk1 d) = orb p k from orbS_val hp hk0 hk1 hd]
      rfl
     ·refine hR1.perm ?_
      rw [List.map_append, List.map_append]
      refine List.Perm.cons _ (List.Perm.cons _ (List.Perm.cons _ ?_))
      simp only [List.map_cons, List.map_nil, List.append_assoc, List.cons_append, List.nil_append]
      show (inP ((al, (valS (orbS hp hk0 hk1 d)).length, cl), valS (orbS hp hk0 hk1 d)) :: pMark D :: (qs.map inP ++ Ds.map pMark)).Perm _
      exact (List.perm_middle.trans (List.Perm.cons _ List.perm_middle)).symm
    case stop =>
     rintro D c pre W _ _ h _
     exact h.elim
  ·have hkk : k = p.length := by omega
   have HKK := hid hkk; clear hkk
   have HQ := hid hqs; clear hqs
   clear hsn hlen
   go_wp2_with fail
   refine SL.leave' (L := pOwn cSl 1 22 ov (qs.map Prod.fst) :: qs.map inP) hSL.tail.tail fun W hW => ⟨ov, ?_, ov, qs, rfl, by rw [HQ.out, HKK.out], hW⟩
   simp [results, Tryz.f68, go_sem]
end Go.Proofs.YtglpfpdomnllkaaGreatDoor

namespace Go.Proofs.YtglpfpdomnllkaaGreatDoor
open Go.RowKit Go.Shelf
set_option maxHeartbeats 1000000
set_option maxRecDepth 100000

theorem FDiv_any (p n : Int) (w : World) (p0 : 0 ≤ p) (p1 : p ≤ 4611686018427387904) (n0 : 0 < n) (n1 : n ≤ 4611686018427387904) :
  Calls Tryz.prog 70 #[fV p 1, fV n 1] w fun r w' => r = .returned (fV (p / Int.gcd p n) (n / Int.gcd p n)) ∧ Below w.heap.size w w' := by
 have h1 := fun w => Inv_any n 1 w n0 n1 (by decide) (by decide)
 have e : Int.gcd 1 n = 1 := by simp
 rw [e] at h1
 have e2 : (1 : Int) / ((1 : Nat) : Int) = 1 := by decide
 have e3 : n / ((1 : Nat) : Int) = n := by simp
 rw [e2, e3] at h1
 have HI := hid h1; clear h1 e e2 e3
 have h2 := fun w => FMul_any p 1 1 n w p0 p1 (by decide) (by decide) (by decide) (by decide) n0 n1 (by omega) (by omega)
 rw [Int.mul_one, Int.one_mul] at h2
 have HM := hid h2; clear h2
 obtain ⟨x, hx⟩ : ∃ x, x = p / Int.gcd p n := ⟨_, rfl⟩
 obtain ⟨y, hy⟩ : ∃ y, y = n / Int.gcd p n := ⟨_, rfl⟩
 rw [← hx, ← hy] at HM
 rw [← hx, ← hy]
 clear hx hy
 go_enter Tryz.func70, Tryz.ntmps70
 go_wp2
 have hS := (((SL.nil w).box (.cells #[.int .i64 p, .slice none 0 0, .int .i64 1, .slice none 0 0] 106)).box (.cells #[.int .i64 n, .slice none 0 0, .int .i64 1, .slice none 0 0] 106)).box (.cells #[.int .i64 0, .slice none 0 0, .int .i64 0, .slice none 0 0] 106)
 simp only [World.size_alloc] at hS
 have q1 := (hS.blk 1 rfl).1
 have q2 := (hS.blk 2 rfl).1
 refine wp_region_qt 4 kR kR ?_
 simp only [List.take_succ_cons, List.take_zero, List.drop_succ_cons, List.drop_zero]
 repeat (first | ((refine wpB_call (fV 1 n) wU (fun w' => ?_) (fun w' hw' => HI.out w') ?_); (focus (go_simp; done)); (try simp only [Act.put, pA, pB, pC])) | ((refine wpB_call (fV x y) wU (fun w' => ?_) (fun w' hw' => HM.out w') ?_); (focus (go_simp; done)); (try simp only [Act.put, pA, pB, pC])) |  ((with_reducible refine wpB_load (by first | exact F_int | exact F_u64s) wU wU (by assumption) wU ?_); (try simp only [Act.put, pA, pB, pC])) | ((with_reducible refine wpB_loadS (n := 2) (us := #[_, _]) A_int kR wU wU (by assumption) wU wU ?_); (try simp only [Act.put, pA, pB, pC])) | ((with_reducible refine wpB_loadS (n := 4) (us := #[_, _, _, _]) A_frac kR wU wU (by assumption) wU wU ?_); (try simp only [Act.put, pA, pB, pC])) | ((refine wpQ_oneG ?_ wU (fun w' => ?_) ?_); rotate_left; (go_simp; rfl); (try simp only [Act.put, pA, pB, pC])))
 refine wpQuiet_nil ?_
 intro w1 hb1
 replace hS := hS.mono hb1
 go_wp2_with ((with_reducible refine wpList_stoR (us := #[.int .i64 x, .slice none 0 0, .int .i64 y, .slice none 0 0]) 0 wU wU (hS) wU kR wU wU ?_); intro w2 hS2)
 exact bodyPost_ret (results_cell rfl rfl A_frac kR (hS2.blk 0 rfl).1) rfl ⟨rfl, hS2.b⟩

abbrev cU64 (x : Int) : Value := .int .u64 x
theorem cU64S (x : Int) : (cU64 x).cells.size = 1 := rfl
theorem parts_any (n : Int) (w : World) (h0 : 0 < n) (h1 : n ≤ 4611686018427387904) :
  Calls Tryz.prog 132 #[iV n] w fun r w' => ∃ v, r = .returned (.tuple #[.bool false, v]) ∧ SL w.heap.size w w' [pOwn cU64 1 165 v [n]] := by
 have hne : (n == 0) = false := by simp; omega
 have hn0 : ¬ n < 0 := by omega
 have hn1 : decide (n < 0) = false := by simp; omega
 have heq := fun (w : World) (a : Option Addr) (n c : Nat) => run_neq_slice_nil_any (P := Tryz.prog) w 102 165 a n c 0 0 Tryz.underlying102
 go_enter Tryz.func132, Tryz.ntmps132
 go_wp2
 have hS := ((SL.nil w).box (.cells #[.int .i64 n, .slice none 0 0] 104))
 have q1 := (hS.blk 0 rfl).1
 go_region_with (go_at_call 131; refine (nsize_any n _ (by omega) h1).mono ?_; rintro e w' ⟨rfl, rfl⟩)
 all_goals go_wp2
 all_goals go_ret2
 all_goals exact ⟨_, rfl, (SL.ofOwn (own_newN (w := w.alloc (.cells #[.int .i64 n, .slice none 0 0] 104)) cU64S [n] 1 rfl (by decide) #[cU64 n] (by simp) (by simp) rfl) (bal (bal (Below.refl _ _) _) _)).drew⟩

theorem Bits_any (n : Int) (w : World) (h0 : 0 < n) (h1 : n ≤ 4611686018427387904) :
  Calls Tryz.prog 149 #[iV n] w fun r w' => r = .returned (.int .i64 (Lib.bitLen n.toNat)) ∧ Below w.heap.size w w' := by
 have hbl := Lib.bitLen_le n.toNat 64 (by decide) (by omega)
 have HL := hid (fun w => Any.bits_Len64 { Tryz.lays171 with } n w (by omega) (by omega))
 obtain ⟨z, hz⟩ : ∃ z, z = Lib.bitLen n.toNat := ⟨_, rfl⟩
 rw [← hz] at HL hbl ⊢
 clear hz
 go_enter Tryz.func149, Tryz.ntmps149
 go_wp2_with fail
 refine (parts_any n _ h0 h1).mono ?_
 rintro e w1 ⟨v, rfl, hK⟩
 obtain ⟨a1, c1, rfl, hR⟩ := hK.slice 0 rfl
 have hR0 := hR.cells (by decide) 0 0 (by simp)
 obtain ⟨bb, oo, rfl, hcx⟩ := hR0
 have hcx := hcx 0 (cU64 n) rfl
 simp only [Nat.zero_mul, Nat.add_zero] at hcx
 have hb1 := hK.b
 clear hR hK
 go_wp2_with fail
 refine (HL.out _).mono ?_
 rintro e w2 ⟨rfl, rfl⟩
 go_wp2_with fail
 go_ret
 exact ⟨by congr 2, bnext (bal (Below.refl _ _) _) hb1⟩

theorem long_any (n : Int) (w : World) (h0 : 0 < n) (h1 : n ≤ 4611686018427387904) :
  Calls Tryz.prog 135 #[iV n] w fun r w' => r = .returned (.bool false) ∧ Below w.heap.size w w' := by
 have hbl := Lib.bitLen_le n.toNat 64 (by decide) (by omega)
 have HL := hid (fun w => Bits_any n w h0 h1)
 obtain ⟨z, hz⟩ : ∃ z, z = Lib.bitLen n.toNat := ⟨_, rfl⟩
 rw [← hz] at HL hbl
 clear hz
 have hd : decide ((1800 : Int) < z) = false := by simp; omega
 go_enter Tryz.func135, Tryz.ntmps135
 go_wp2_with fail
 refine (HL.out _).mono ?_
 rintro e w1 ⟨rfl, hb1⟩
 go_wp2_with fail
 go_ret
 exact ⟨rfl, bnext (bal (Below.refl _ _) _) hb1⟩

theorem Large_any (p q : Int) (w : World) (h0 : 0 < p) (h1 : p ≤ 4611686018427387904) (h2 : 0 < q) (h3 : q ≤ 4611686018427387904) :
  Calls Tryz.prog 106 #[fV p q] w fun r w' => r = .returned (.bool false) ∧ Below w.heap.size w w' := by
 have HP := hid (fun w => long_any p w h0 h1)
 have HQ := hid (fun w => long_any q w h2 h3)
 go_enter Tryz.func106, Tryz.ntmps106
 go_wp2_with fail
 refine (HP.out _).mono ?_
 rintro e w1 ⟨rfl, hb1⟩
 have hS := ((SL.nil w).box (.cells #[.int .i64 p, .slice none 0 0, .int .i64 q, .slice none 0 0] 106)).mono hb1
 have q1 := (hS.blk 0 rfl).1
 go_wp2_with (with_reducible refine wpList_ldS (n := 2) (us := #[_, _]) A_int kR wU wU (by assumption) wU wU ?_)
 refine (HQ.out _).mono ?_
 rintro e w2 ⟨rfl, hb2⟩
 go_wp2_with fail
 go_ret
 exact ⟨rfl, (hS.mono hb2).b⟩

theorem IsWhole_any (p : Int) (w : World) :
  Calls Tryz.prog 136 #[fV p 1] w fun r w' => r = .returned (.bool true) ∧ Below w.heap.size w w' := by
 have heq := fun (w : World) (a : Option Addr) (n c : Nat) => Lib.run_eql_slice_nil (P := Tryz.prog) w 102 165 a n c 0 0 Tryz.underlying102
 go_enter Tryz.func136, Tryz.ntmps136
 go_wp2
 go_ret
 exact ⟨rfl, bal (Below.refl _ _) _⟩

theorem String_any (n : Int) (w : World) (hI : ItoaOk w n) :
  Calls Tryz.prog 137 #[iV n] w fun r w' => r = .returned (.string (itoaB n)) ∧ Below w.heap.size w w' := by
 have HI := hid (hI _ (bal (Below.refl _ w) (.cells #[.int .i64 n, .slice none 0 0] 104)))
 have heq := fun (w : World) (a : Option Addr) (n c : Nat) => Lib.run_eql_slice_nil (P := Tryz.prog) w 102 165 a n c 0 0 Tryz.underlying102
 go_enter Tryz.func137, Tryz.ntmps137
 go_wp2_with fail
 refine HI.out.mono ?_
 rintro e w1 ⟨rfl, hb1⟩
 go_wp2_with fail
 go_ret
 exact ⟨rfl, bnext (bal (Below.refl _ _) _) hb1⟩
end Go.Proofs.YtglpfpdomnllkaaGreatDoor

namespace Go.Proofs.YtglpfpdomnllkaaGreatDoor
open Go.RowKit Go.Shelf
set_option maxHeartbeats 1000000
set_option maxRecDepth 100000

theorem Text_any (n : Int) (w : World) (hI : ItoaOk w n) :
  Calls Tryz.prog 107 #[fV n 1] w fun r w' => r = .returned (.string (itoaB n)) ∧ Below w.heap.size w w' := by
 have HW := hid (fun w => IsWhole_any n w)
 have HI := hid hI; clear hI
 go_enter Tryz.func107, Tryz.ntmps107
 go_wp2_with fail
 refine (HW.out _).mono ?_
 rintro e w1 ⟨rfl, hb1⟩
 have hS := ((SL.nil w).box (.cells #[.int .i64 n, .slice none 0 0, .int .i64 1, .slice none 0 0] 106)).mono hb1
 have q1 := (hS.blk 0 rfl).1
 go_wp2_with (with_reducible refine wpList_ldS (n := 2) (us := #[_, _]) A_int kR wU wU (by assumption) wU wU ?_)
 refine (String_any n _ (HI.out.below hS.b)).mono ?_
 rintro e w2 ⟨rfl, hb2⟩
 go_wp2_with fail
 go_ret
 exact ⟨rfl, (hS.mono hb2).b⟩

theorem result_any (n : Int) (w : World) (h0 : 0 < n) (h1 : n ≤ 4611686018427387904) (hI : ItoaOk w n) :
  Calls Tryz.prog 72 #[fV n 1] w fun r w' => r = .returned (.tuple #[.string (itoaB n), .int .i64 0]) ∧ Below w.heap.size w w' := by
 have HL := hid (fun w => Large_any n 1 w h0 h1 (by decide) (by decide))
 have HI := hid hI; clear hI
 go_enter Tryz.func72, Tryz.ntmps72
 go_wp2_with fail
 refine (HL.out _).mono ?_
 rintro e w1 ⟨rfl, hb1⟩
 have hS := ((SL.nil w).box (.cells #[.int .i64 n, .slice none 0 0, .int .i64 1, .slice none 0 0] 106)).mono hb1
 have q1 := (hS.blk 0 rfl).1
 go_wp2_with (with_reducible refine wpList_ldS (n := 4) (us := #[_, _, _, _]) A_frac kR wU wU (by assumption) wU wU ?_)
 refine (Text_any n _ (HI.out.below hS.b)).mono ?_
 rintro e w2 ⟨rfl, hb2⟩
 go_wp2_with fail
 go_ret2
 exact ⟨rfl, (hS.mono hb2).b⟩

def lensQ (qs : List (SlH × List Int)) : List Nat := qs.map fun q => q.2.length
def perS (p : List Int) : ByteArray := if permE p = 0 then itoaB (periodN p) else ⟨#[]⟩

/-- one step of the least common multiple, in small fractions. -/
theorem step_any (p n : Nat) (hp0 : 0 < p) (hp : p ≤ 34359738368) (hn0 : 0 < n) (hn : n ≤ 64) (w : World) :
  (Calls Tryz.prog 70 #[fV p 1, fV n 1] w fun r w' => r = .returned (fV ((p / Nat.gcd p n : Nat) : Int) ((n / Nat.gcd p n : Nat) : Int)) ∧ Below w.heap.size w w') ∧
  (Calls Tryz.prog 71 #[fV ((p / Nat.gcd p n : Nat) : Int) 1, fV n 1] w fun r w' => r = .returned (fV ((lcmF p n : Nat) : Int) 1) ∧ Below w.heap.size w w') := by
 have e1 : ((p / Nat.gcd p n : Nat) : Int) = (p : Int) / (Int.gcd p n : Int) := by rw [Int.natCast_ediv]; rfl
 have e2 : ((n / Nat.gcd p n : Nat) : Int) = (n : Int) / (Int.gcd p n : Int) := by rw [Int.natCast_ediv]; rfl
 refine ⟨?_, ?_⟩
 ·rw [e1, e2]
  exact FDiv_any p n w (by omega) (by omega) (by omega) (by omega)
 ·have hq : p / Nat.gcd p n ≤ p := Nat.div_le_self _ _
  unfold lcmF
  clear e1 e2
  generalize p / Nat.gcd p n = q at *
  have hl : q * n ≤ p * 64 := Nat.mul_le_mul hq hn
  have hqn : (q : Int) * (n : Int) = ((q * n : Nat) : Int) := (Int.natCast_mul _ _).symm
  have h := FMul_any (q : Int) 1 (n : Int) 1 w (by omega) (by omega) (by decide) (by decide) (by omega) (by omega) (by decide) (by decide) (by rw [hqn]; omega) (by decide)
  have e3 : Int.gcd ((q : Int) * (n : Int)) (1 * 1) = 1 := by simp
  rw [e3, hqn] at h
  have e4 : ((q * n : Nat) : Int) / ((1 : Nat) : Int) = ((q * n : Nat) : Int) := by simp
  rw [e4] at h
  exact h

theorem lens_len (qs : List (SlH × List Int)) : (lensQ qs).length = qs.length := by simp [lensQ]
theorem perF_take {ls : List Nat} {k : Nat} (h : k < ls.length) : perF (ls.take (k + 1)) = lcmF (perF (ls.take k)) ls[k] := by
 rw [List.take_succ_eq_append_getElem h, perF_snoc]
theorem sum_take_le : ∀ (ls : List Nat) (k : Nat), (ls.take k).sum ≤ ls.sum
 | [], k => by simp
 | x :: r, 0 => by simp
 | x :: r, k + 1 => by have := sum_take_le r k; simp; omega

theorem Period_any (a : Option Addr) (cap : Nat) (p : List Int) (w : World) (hS : Ints w a cap p) (hI : ∀ x ∈ p, InI x) (h64 : p.length ≤ 64) (hIt : permE p = 0 → ItoaOk w (periodN p)) :
  Calls Tryz.prog 35 #[.slice a p.length cap] w fun r w' => r = .returned (.tuple #[.string (perS p), .int .i64 (permE p)]) ∧ Below w.heap.size w w' := by
 have HC := hid (CheckPerm_any a cap p w hS hI)
 by_cases h : permE p = 0
 ·have hp := isP_of h
  have hit := hIt h
  have e0 : perS p = itoaB (periodN p) := by unfold perS; rw [if_pos h]
  have hc := HC.out
  rw [h] at hc
  rw [e0, h]
  clear HC e0
  have HC := hid hc; clear hc
  have HIT := hid hit; clear hit hIt
  have hcap := hS.le
  clear h
  go_enter Tryz.func35, Tryz.ntmps35
  go_wp2_with fail
  refine HC.out.mono ?_
  rintro e w1 ⟨rfl, hb1⟩
  go_wp2_with fail
  refine (F_any 1 _).mono ?_
  rintro e w2 ⟨rfl, hb2⟩
  go_wp2_with fail
  have hS0 := (((SL.nil w).mono hb1).mono hb2).box (.cells #[.int .i64 1, .slice none 0 0, .int .i64 1, .slice none 0 0] 106)
  refine (cycles_any a cap p _ (hS.below hS0.b) hp (by omega)).mono ?_
  rintro e w3 ⟨v, qs, rfl, hqs, hK⟩
  replace hS0 := hS0.call hK
  clear hK
  obtain ⟨av, cv, rfl, _⟩ := hS0.slice 0 rfl
  go_wp2_with fail
  have hlq : lensQ qs = (cycK p p.length).map List.length := by rw [← hqs]; simp [lensQ]
  have hsum : (lensQ qs).sum ≤ 64 := by rw [hlq]; exact Nat.le_trans (cycK_sum hp (Nat.le_refl _)) h64
  have hpos : ∀ n ∈ lensQ qs, 0 < n := by
   rw [hlq]; intro n hn
   obtain ⟨l, hl, rfl⟩ := List.mem_map.1 hn
   exact cycK_pos hp (Nat.le_refl _) l hl
  have hper : periodN p = perF (lensQ qs) := by rw [hlq]; rfl
  have hnq : qs.length ≤ 64 := by
   have h1 := cycK_len p p.length
   have h2 : (lensQ qs).length = (cycK p p.length).length := by rw [hlq]; simp
   rw [lens_len] at h2; omega
  have HPER := hid hper; clear hper
  have HPOS := hid hpos; clear hpos
  clear hlq hqs
  have HQL : Hid ((qs.map Prod.fst).length = qs.length) := hid (by simp)
  obtain ⟨H, hH⟩ : ∃ H, H = w2.heap.size := ⟨_, rfl⟩
  rw [← hH] at hS0 ⊢
  clear hH
  go_loopw [7, 8, 18] (fun _ _ i wr => ∃ k : Nat, k ≤ qs.length ∧ i = .int .i64 k ∧
   SL w.heap.size w wr (pBlk H (.cells #[.int .i64 (perF ((lensQ qs).take k)), .slice none 0 0, .int .i64 1, .slice none 0 0] 106) :: pOwn cSl 1 22 (.slice av qs.length cv) (qs.map Prod.fst) :: qs.map inP)) (fun _ _ i _ => qs.length - (intOf i).toNat)
  case atStart => exact ⟨0, by omega, rfl, SL.comm (K := pOwn cSl 1 22 (.slice av qs.length cv) (qs.map Prod.fst) :: qs.map inP) (L := [pBlk H (.cells #[.int .i64 1, .slice none 0 0, .int .i64 1, .slice none 0 0] 106)]) (by simpa using hS0)⟩
  case round =>
   obtain ⟨k, hk, rfl, hSr⟩ := hrel
   have hRq := hSr.rd 1 rfl
   by_cases hlt : k < qs.length
   ·have hlk : k < (lensQ qs).length := by rw [lens_len]; exact hlt
    have hpt := perF_take hlk
    obtain ⟨P0, hP0⟩ : ∃ P0, P0 = perF ((lensQ qs).take k) := ⟨_, rfl⟩
    obtain ⟨n, hn⟩ : ∃ n, n = (lensQ qs)[k] := ⟨_, rfl⟩
    have hn0 : 0 < n := by rw [hn]; exact HPOS.out _ (List.getElem_mem hlk)
    have hn1 : n ≤ 64 := by
     have h1 := sum_take_le (lensQ qs) (k + 1)
     rw [List.take_succ_eq_append_getElem hlk, List.sum_append] at h1
     rw [hn]; simp at h1; omega
    have hp0 : 0 < P0 := by rw [hP0]; exact perF_pos _ 1 (by decide) (fun m hm => HPOS.out m (List.mem_of_mem_take hm))
    have hp1 : P0 ≤ 34359738368 := by rw [hP0]; exact Nat.le_of_lt (perF_lt _ (Nat.le_trans (sum_take_le _ _) hsum))
    rw [← hP0, ← hn] at hpt
    rw [← hP0] at hSr
    have hst := fun w => step_any P0 n hp0 hp1 hn0 hn1 w
    obtain ⟨Z1, hZ1⟩ : ∃ Z : Nat, Z = P0 / Nat.gcd P0 n := ⟨_, rfl⟩
    obtain ⟨Z2, hZ2⟩ : ∃ Z : Nat, Z = n / Nat.gcd P0 n := ⟨_, rfl⟩
    obtain ⟨Z3, hZ3⟩ : ∃ Z : Nat, Z = lcmF P0 n := ⟨_, rfl⟩
    rw [← hZ1, ← hZ2, ← hZ3] at hst
    rw [← hZ3] at hpt
    have HPT := hid hpt; clear hpt
    have HST := hid hst; clear hst
    clear hZ1 hZ2 hZ3
    have hel : (atD (none, 0, 0) (qs.map Prod.fst) k).2.1 = n := by
     have hw := (hSr.own (k + 2) (c := cInt) (sz := 1) (e := 3) (v := cSl qs[k].1) (l := qs[k].2) (by simp [inP, hlt]))
     obtain ⟨a', cap', e1, _⟩ := hw.reps
     have e2 : qs[k].1.2.1 = qs[k].2.length := by have := congrArg (fun v : Value => match v with | .slice _ n _ => n | _ => 0) e1; simpa using this
     rw [hn]
     simp [atD, hlt, e2, lensQ]
    have HEL := hid hel; clear hel
    clear hn hP0
    go_wp2_with ((with_reducible refine wpList_idxN _ ((none, 0, 0) : SlH) E_sls F_sl cSl1 wU wU (hRq) (HQL.out) oD oD (fun _ => wU) (fun _ => ?_)); (try simp only [cSl]); rw [HEL.out])
    refine (F_any n _).mono ?_
    rintro e w4 ⟨rfl, hb4⟩
    replace hSr := (hSr.mono hb4).box (.cells #[.int .i64 n, .slice none 0 0, .int .i64 1, .slice none 0 0] 106)
    go_wp2_with fail
    have q0 := (hSr.blk 0 rfl).1
    have q1 := (hSr.blk 1 rfl).1
    refine wp_region_qt 7 kR kR ?_
    simp only [List.take_succ_cons, List.take_zero, List.drop_succ_cons, List.drop_zero]
    ((with_reducible refine wpB_loadS (n := 4) (us := #[_, _, _, _]) A_frac kR wU wU (by assumption) wU wU ?_); (try simp only [Act.put, pA, pB, pC]))
    ((with_reducible refine wpB_loadS (n := 4) (us := #[_, _, _, _]) A_frac kR wU wU (by assumption) wU wU ?_); (try simp only [Act.put, pA, pB, pC]))
    ((refine wpB_call (fV Z1 Z2) wU (fun w' => ?_) (fun w' hw' => (HST.out w').1) ?_); (focus (go_simp; done)); (try simp only [Act.put, pA, pB, pC]))
    refine wpQ_oneG (iV Z1) wU (fun w' => ?_) ?_
    ·go_simp
     kernel_rfl
    ((refine wpB_call (fV Z1 1) wU (fun w' => ?_) (fun w' hw' => Whole_any _ w') ?_); (focus (go_simp; done)); (try simp only [Act.put, pA, pB, pC]))
    ((with_reducible refine wpB_loadS (n := 4) (us := #[_, _, _, _]) A_frac kR wU wU (by assumption) wU wU ?_); (try simp only [Act.put, pA, pB, pC]))
    ((refine wpB_call (fV Z3 1) wU (fun w' => ?_) (fun w' hw' => (HST.out w').2) ?_); (focus (go_simp; done)); (try simp only [Act.put, pA, pB, pC]))
    refine wpQuiet_nil ?_
    intro w5 hb5
    replace hSr := hSr.mono hb5
    clear q0 q1
    go_wp2_with ((with_reducible refine wpList_stoR (us := #[.int .i64 Z3, .slice none 0 0, .int .i64 1, .slice none 0 0]) 1 wU wU (hSr) wU kR wU wU ?_); intro w6 hS6)
    refine ⟨⟨k + 1, by omega, by go_num, ?_⟩, by simp [intOf]; omega⟩
    rw [HPT.out]
    exact hS6.tail
   ·have hkq : k = qs.length := by omega
    have hlk : (lensQ qs).take k = lensQ qs := List.take_of_length_le (by rw [lens_len]; omega)
    rw [hlk, ← HPER.out] at hSr
    have hN0 : 0 < periodN p := by rw [HPER.out]; exact perF_pos _ 1 (by decide) HPOS.out
    have hN1 : periodN p < 34359738368 := by rw [HPER.out]; exact perF_lt _ hsum
    clear hlk
    have HKQ := hid hkq; clear hkq
    have q0 := (hSr.blk 0 rfl).1
    go_wp2_with (with_reducible refine wpList_ldS (n := 4) (us := #[_, _, _, _]) A_frac kR wU wU (by assumption) wU wU ?_)
    refine (result_any (periodN p) _ (by omega) (by omega) (HIT.out.below hSr.b)).mono ?_
    rintro e w4 ⟨rfl, hb4⟩
    go_wp2_with fail
    go_ret2
    exact ⟨rfl, (hSr.mono hb4).b⟩
 ·have e0 : perS p = ⟨#[]⟩ := by unfold perS; rw [if_neg h]
  have hne : (permE p != 0) = true := by simpa using h
  rw [e0]
  clear e0 h hIt
  go_enter Tryz.func35, Tryz.ntmps35
  go_wp2_with fail
  refine HC.out.mono ?_
  rintro e w1 ⟨rfl, hb1⟩
  go_wp2_with fail
  go_ret2
  exact ⟨rfl, hb1⟩
end Go.Proofs.YtglpfpdomnllkaaGreatDoor
