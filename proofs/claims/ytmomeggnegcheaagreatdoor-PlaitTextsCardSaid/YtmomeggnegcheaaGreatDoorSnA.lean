/- Contract: Sennit. Conditions: none. Contract: Mat. Conditions: none. -/
import Derived.Test.YtmomeggnegcheaaGreatDoorPaB
import Derived.Test.YtmomeggnegcheaaGreatDoorSmA
import Derived.Test.YtmomeggnegcheaaGreatDoorPnA
set_option linter.all false
/- Contract: Sennit. Conditions: none. -/
namespace Go.Proofs.YtmomeggnegcheaaGreatDoor
open Go.RowKit
set_option maxHeartbeats 1000000
set_option maxRecDepth 100000

abbrev OwnPs (B : Nat) (w : World) (v : Value) (l : List PassV) : Prop := Own cPass 3 B 78 w v l
/-- A list of passes and an error came back. -/
def RetPsE (W : World) (L : List PassV) (e : Int) (r : Ending) (w' : World) : Prop :=
  ∃ a cap, r = .returned (.tuple #[.slice a L.length cap, .int .i64 e]) ∧ PassesR w' a cap L ∧ (∀ b, a = some b → W.heap.size ≤ b.block) ∧ Below W.heap.size W w'
theorem passesR_nil (w : World) : PassesR w none 0 [] := ⟨cPassS, Nat.le_refl _, Nat.zero_le _, fun _ => rfl, fun j u hu => by simp at hu⟩
theorem RetPsE.none {W w' : World} {e : Int} {r : Ending} (h1 : r = .returned (.tuple #[.slice none 0 0, .int .i64 e])) (h4 : Below W.heap.size W w') : RetPsE W [] e r w' :=
  ⟨.none, 0, h1, passesR_nil _, (fun _ h => by cases h), h4⟩
theorem RetPsE.own {W w' : World} {L : List PassV} {e : Int} {r : Ending} {B : Nat} (v : Value) (h1 : r = .returned (.tuple #[v, .int .i64 e])) (h2 : OwnPs B w' v L) (hB : W.heap.size ≤ B) (h4 : Below W.heap.size W w') : RetPsE W L e r w' := by
  obtain ⟨a, cap, rfl, hr, hf, _⟩ := h2.reps
  exact ⟨a, cap, h1, hr, fun b hb => Nat.le_trans hB (hf b hb).1, h4⟩

def ouN (c : Nat) : ByteArray := ⟨(Lib.repeatL [111, 117] c).toArray⟩
theorem repeatOU_any (c : Nat) (w : World) (hc : c ≤ 1048576) :
    Calls Tryz.prog 94 #[.string ⟨#[111, 117]⟩, .int .i64 c] w fun e w' => e = .returned (.string (ouN c)) ∧ Below w.heap.size w w' :=
  Tryz.strings_Repeat ⟨#[111, 117]⟩ c w (by omega) (by show 2 * c ≤ _; omega)
theorem ouN_size (c : Nat) : (ouN c).size = 2 * c := by
  show (Lib.repeatL [111, 117] c).toArray.size = 2 * c
  simp [Lib.repeatL_length]; omega

def senE (n s : Int) : Int := if n < 2 ∨ 12 < n ∨ s < 0 ∨ 1000 < s then 3 else 0
def senP (n half : Int) (k : Nat) : PassV := if (k : Int) % 2 = 1 then ⟨n, n - half, (ouN half.toNat).extract 0 half.toNat⟩ else ⟨1, half + 1, (ouN half.toNat).extract 0 half.toNat⟩
def senK (n half : Int) (k : Nat) : List PassV := (List.range k).map (senP n half)
theorem senK_succ (n half : Int) (k : Nat) : senK n half (k + 1) = senK n half k ++ [senP n half k] := by simp [senK, List.range_succ]
theorem senK_len (n half : Int) (k : Nat) : (senK n half k).length = k := by simp [senK]
def senL (n s : Int) : List PassV := if senE n s = 0 then senK n (n / 2) s.toNat else []
theorem Sennit_any (n s : Int) (w : World) :
    Calls Tryz.prog 44 #[.int .i64 n, .int .i64 s] w fun r w' => RetPsE w (senL n s) (senE n s) r w' := by
  by_cases h : senE n s = 0
  · have hz : 2 ≤ n ∧ n ≤ 12 ∧ 0 ≤ s ∧ s ≤ 1000 := by unfold senE at h; split at h <;> omega
    obtain ⟨h1, h2, h3, h4⟩ := hz
    obtain ⟨half, hh⟩ : ∃ c : Nat, n / 2 = c := ⟨(n / 2).toNat, by omega⟩
    obtain ⟨m, rfl⟩ : ∃ m : Nat, s = m := ⟨s.toNat, by omega⟩
    have hL : senL n m = senK n half m := by rw [senL, if_pos h, hh]; rfl
    rw [hL, h]
    clear h hL
    have hh1 : half ≤ 6 := by omega
    have hos := ouN_size half
    have hos1 : (half : Int) ≤ (ouN half).size := by omega
    go_enter Tryz.func44, Tryz.ntmps44
    go_wp2_with (first | (go_at_call 94; refine (repeatOU_any half _ (by omega)).mono ?_; rintro e w1 ⟨rfl, hb1⟩))
    have hhn : (half : Int) ≤ n ∧ (half : Int) ≤ 6 := by omega
    clear hh hos hos1
    go_loopw [8, 9, 10, 32] (fun v _ _ i wr => ∃ k : Nat, k ≤ m ∧ i = .int .i64 k ∧ OwnPs w.heap.size wr v (senK n half k) ∧ Below w.heap.size w wr) (fun _ _ _ i _ => m - (intOf i).toNat)
    case atStart => exact ⟨0, by omega, rfl, own_nil cPassS, hb1⟩
    case round =>
      obtain ⟨k, hk, rfl, hO, hbr⟩ := hrel
      have hle : (senK n half k).length ≤ 1000 := by rw [senK_len]; omega
      have hbs := hbr.size
      by_cases hlt : k < m
      · have hs := senK_succ n half k
        by_cases hp : (k : Int) % 2 = 1
        · have hb : ((k : Int) % 2 == 1) = true := by simpa using hp
          have e : senP n half k = ⟨n, n - half, (ouN half).extract 0 half⟩ := by rw [senP, if_pos hp]; rfl
          rw [e] at hs
          have HS := hid hs; clear hs e hp
          go_wp2_with (first | ((with_reducible refine wpList_app (l := (senK n half k)) (ys := [(⟨n, n - half, (ouN half).extract 0 half⟩)]) E_passes (by with_unfolding_all rfl) (by with_unfolding_all rfl) (((hO.alloc _)).alloc _) (reps_new1 cPassS ((⟨n, n - half, (ouN half).extract 0 half⟩)) _ _ (by simp) rfl) cPassO (by simp; omega) (by first | omega | (simp; omega)) (by simp; omega) ?_); intro v3 w3 ho3 hg3 hat3))
          refine ⟨⟨k + 1, by omega, by go_num, by rw [HS.out]; exact ho3, below_own (bal (bal hbr (.cells #[.int .i64 n, .int .i64 (n - half), .string ((ouN half).extract 0 half)] 78)) (.cells #[.int .i64 n, .int .i64 (n - half), .string ((ouN half).extract 0 half)] 78)) hg3 ((hO.alloc _).alloc _) (Nat.le_refl _)⟩, by simp [intOf]; omega⟩
        · have hb : ((k : Int) % 2 == 1) = false := by simpa using hp
          have e : senP n half k = ⟨1, half + 1, (ouN half).extract 0 half⟩ := by rw [senP, if_neg hp]; rfl
          rw [e] at hs
          have HS := hid hs; clear hs e hp
          go_wp2_with (first | ((with_reducible refine wpList_app (l := (senK n half k)) (ys := [(⟨1, half + 1, (ouN half).extract 0 half⟩)]) E_passes (by with_unfolding_all rfl) (by with_unfolding_all rfl) (((hO.alloc _)).alloc _) (reps_new1 cPassS ((⟨1, half + 1, (ouN half).extract 0 half⟩)) _ _ (by simp) rfl) cPassO (by simp; omega) (by first | omega | (simp; omega)) (by simp; omega) ?_); intro v3 w3 ho3 hg3 hat3))
          refine ⟨⟨k + 1, by omega, by go_num, by rw [HS.out]; exact ho3, below_own (bal (bal hbr (.cells #[.int .i64 1, .int .i64 (half + 1), .string ((ouN half).extract 0 half)] 78)) (.cells #[.int .i64 1, .int .i64 (half + 1), .string ((ouN half).extract 0 half)] 78)) hg3 ((hO.alloc _).alloc _) (Nat.le_refl _)⟩, by simp [intOf]; omega⟩
      · have : k = m := by omega
        subst this
        clear hle
        go_wp2_with fail
        go_ret2
        exact RetPsE.own _ rfl hO (Nat.le_refl _) hbr
  · have e1 : senE n s = 3 := by unfold senE at *; split at h <;> simp_all
    have e2 : senL n s = [] := if_neg h
    have hc : n < 2 ∨ 12 < n ∨ s < 0 ∨ 1000 < s := by
      unfold senE at h; split at h
      · assumption
      · exact absurd rfl h
    rw [e1, e2]
    clear e1 e2 h
    by_cases c1 : n < 2
    · go_enter Tryz.func44, Tryz.ntmps44
      go_wp2_with fail
      go_ret2
      exact RetPsE.none rfl (Below.refl _ _)
    by_cases c2 : 12 < n
    · go_enter Tryz.func44, Tryz.ntmps44
      go_wp2_with fail
      go_ret2
      exact RetPsE.none rfl (Below.refl _ _)
    by_cases c3 : s < 0
    · go_enter Tryz.func44, Tryz.ntmps44
      go_wp2_with fail
      go_ret2
      exact RetPsE.none rfl (Below.refl _ _)
    · have c4 : 1000 < s := by omega
      go_enter Tryz.func44, Tryz.ntmps44
      go_wp2_with fail
      go_ret2
      exact RetPsE.none rfl (Below.refl _ _)
end Go.Proofs.YtmomeggnegcheaaGreatDoor

/- Contract: Mat. Conditions: none. -/
namespace Go.Proofs.YtmomeggnegcheaaGreatDoor
open Go.RowKit
set_option maxHeartbeats 1000000
set_option maxRecDepth 100000

def repB (s : ByteArray) (c : Nat) : ByteArray := ⟨(Lib.repeatL s.data.toList c).toArray⟩
theorem repB_any (s : ByteArray) (c : Nat) (w : World) (hc : c ≤ 1048576) (hs : s.size ≤ 1048576) :
    Calls Tryz.prog 94 #[.string s, .int .i64 c] w fun e w' => e = .returned (.string (repB s c)) ∧ Below w.heap.size w w' :=
  Tryz.strings_Repeat s c w (by omega) (by have := Nat.mul_le_mul hs hc; omega)

def slash0 : ByteArray := ⟨#[47, 92]⟩
def matRow (y : Int) (k : Nat) : ByteArray := if (k : Int) % 2 = 0 then repB (slash0.extract 0 1) y.toNat else repB (slash0.extract 1 2) y.toNat
def matK (y : Int) (k : Nat) : List ByteArray := (List.range k).map (matRow y)
theorem matK_succ (y : Int) (k : Nat) : matK y (k + 1) = matK y k ++ [matRow y k] := by simp [matK, List.range_succ]
theorem matK_len (y : Int) (k : Nat) : (matK y k).length = k := by simp [matK]
def matL (x y : Int) : List ByteArray := if matE x y = 0 then matK y (x - 1).toNat else []
theorem cStrO (x : ByteArray) : ∀ u ∈ (cStr x).cells.toList, u.oneCell' = true := by intro u hu; simp [cStr, Value.cells] at hu; subst hu; rfl
abbrev Strs (w : World) (a : Option Addr) (cap : Nat) (l : List ByteArray) : Prop := Reps cStr 1 w a cap l
abbrev OwnS (B : Nat) (w : World) (v : Value) (l : List ByteArray) : Prop := Own cStr 1 B 9 w v l
/-- A list of strings and an error came back. -/
def RetSE (W : World) (L : List ByteArray) (e : Int) (r : Ending) (w' : World) : Prop :=
  ∃ a cap, r = .returned (.tuple #[.slice a L.length cap, .int .i64 e]) ∧ Strs w' a cap L ∧ (∀ b, a = some b → W.heap.size ≤ b.block) ∧ Below W.heap.size W w'
theorem strs_nil (w : World) : Strs w none 0 [] := ⟨cStrS, Nat.le_refl _, Nat.zero_le _, fun _ => rfl, fun j u hu => by simp at hu⟩
theorem RetSE.none {W w' : World} {e : Int} {r : Ending} (h1 : r = .returned (.tuple #[.slice none 0 0, .int .i64 e])) (h4 : Below W.heap.size W w') : RetSE W [] e r w' :=
  ⟨.none, 0, h1, strs_nil _, (fun _ h => by cases h), h4⟩
theorem RetSE.own {W w' : World} {L : List ByteArray} {e : Int} {r : Ending} {B : Nat} (v : Value) (h1 : r = .returned (.tuple #[v, .int .i64 e])) (h2 : OwnS B w' v L) (hB : W.heap.size ≤ B) (h4 : Below W.heap.size W w') : RetSE W L e r w' := by
  obtain ⟨a, cap, rfl, hr, hf, _⟩ := h2.reps
  exact ⟨a, cap, h1, hr, fun b hb => Nat.le_trans hB (hf b hb).1, h4⟩

theorem Mat_any (x y : Int) (w : World) :
    Calls Tryz.prog 49 #[.int .i64 x, .int .i64 y] w fun r w' => RetSE w (matL x y) (matE x y) r w' := by
  have hck := fun w => checkMat_any x y w
  by_cases h : matE x y = 0
  · obtain ⟨h1, h2, h3, h4⟩ := matE_zero h
    have hL : matL x y = matK y (x - 1).toNat := if_pos h
    rw [hL, h]
    rw [h] at hck
    obtain ⟨m, hm⟩ : ∃ m : Nat, x = m + 1 := ⟨(x - 1).toNat, by omega⟩
    subst hm
    obtain ⟨c, rfl⟩ : ∃ c : Nat, y = c := ⟨y.toNat, by omega⟩
    have e0 : ((m : Int) + 1 - 1).toNat = m := by omega
    rw [e0]
    have HCK := hid hck; clear hck h hL e0
    go_enter Tryz.func49, Tryz.ntmps49
    go_wp2_with (go_at_call 97; refine (HCK.out _).mono ?_; rintro e w' ⟨rfl, rfl⟩)
    go_loopw [7, 8, 17] (fun v _ i wr => ∃ k : Nat, k ≤ m ∧ i = .int .i64 k ∧ OwnS w.heap.size wr v (matK c k) ∧ Below w.heap.size w wr) (fun _ _ i _ => m - (intOf i).toNat)
    case atStart => exact ⟨0, by omega, rfl, own_nil cStrS, Below.refl _ _⟩
    case round =>
      obtain ⟨k, hk, rfl, hO, hbr⟩ := hrel
      have hle : (matK c k).length ≤ 100 := by rw [matK_len]; omega
      have hbs := hbr.size
      by_cases hlt : k < m
      · have hs := matK_succ c k
        by_cases hp : (k : Int) % 2 = 0
        · have e : matRow c k = repB ((⟨#[47, 92]⟩ : ByteArray).extract 0 1) c := by rw [matRow, if_pos hp]; rfl
          rw [e] at hs
          have HS := hid hs; clear hs e
          go_wp2_with (first | ((go_at_call 94; refine (repB_any _ c _ (by omega) (by decide)).mono ?_; rintro e w1 ⟨rfl, hb1⟩); have hO1 := hO.below hb1; have hbr1 := bnext hbr hb1; have hbs1 := hbr1.size) | ((with_reducible refine wpList_app (l := (matK c k)) (ys := [(repB ((⟨#[47, 92]⟩ : ByteArray).extract 0 1) c)]) E_strs (by with_unfolding_all rfl) (by with_unfolding_all rfl) ((hO1).alloc _) (reps_new1 cStrS ((repB ((⟨#[47, 92]⟩ : ByteArray).extract 0 1) c)) _ _ (by simp) rfl) cStrO (by simp; omega) (by first | omega | (simp; omega)) (by simp; omega) ?_); intro v3 w3 ho3 hg3 hat3))
          refine ⟨⟨k + 1, by omega, by go_num, by rw [HS.out]; exact ho3, below_own (bal hbr1 (.cells #[.string (repB ((⟨#[47, 92]⟩ : ByteArray).extract 0 1) c)] 9)) hg3 (hO1.alloc _) (Nat.le_refl _)⟩, by simp [intOf]; omega⟩
        · have hp1 : (k : Int) % 2 = 1 := by omega
          have e : matRow c k = repB ((⟨#[47, 92]⟩ : ByteArray).extract 1 2) c := by rw [matRow, if_neg hp]; rfl
          rw [e] at hs
          have HS := hid hs; clear hs e hp
          go_wp2_with (first | ((go_at_call 94; refine (repB_any _ c _ (by omega) (by decide)).mono ?_; rintro e w1 ⟨rfl, hb1⟩); have hO1 := hO.below hb1; have hbr1 := bnext hbr hb1; have hbs1 := hbr1.size) | ((with_reducible refine wpList_app (l := (matK c k)) (ys := [(repB ((⟨#[47, 92]⟩ : ByteArray).extract 1 2) c)]) E_strs (by with_unfolding_all rfl) (by with_unfolding_all rfl) ((hO1).alloc _) (reps_new1 cStrS ((repB ((⟨#[47, 92]⟩ : ByteArray).extract 1 2) c)) _ _ (by simp) rfl) cStrO (by simp; omega) (by first | omega | (simp; omega)) (by simp; omega) ?_); intro v3 w3 ho3 hg3 hat3))
          refine ⟨⟨k + 1, by omega, by go_num, by rw [HS.out]; exact ho3, below_own (bal hbr1 (.cells #[.string (repB ((⟨#[47, 92]⟩ : ByteArray).extract 1 2) c)] 9)) hg3 (hO1.alloc _) (Nat.le_refl _)⟩, by simp [intOf]; omega⟩
      · have : k = m := by omega
        subst this
        clear hle
        go_wp2_with fail
        go_ret2
        exact RetSE.own _ rfl hO (Nat.le_refl _) hbr
  · have e1 : matE x y = 3 := by unfold matE at *; split at h <;> simp_all
    have e2 : matL x y = [] := if_neg h
    rw [e1] at hck
    rw [e1, e2]
    have HCK := hid hck; clear hck h e1 e2
    go_enter Tryz.func49, Tryz.ntmps49
    go_wp2_with (go_at_call 97; refine (HCK.out _).mono ?_; rintro e w' ⟨rfl, rfl⟩)
    go_ret2
    exact RetSE.none rfl (Below.refl _ _)
end Go.Proofs.YtmomeggnegcheaaGreatDoor
