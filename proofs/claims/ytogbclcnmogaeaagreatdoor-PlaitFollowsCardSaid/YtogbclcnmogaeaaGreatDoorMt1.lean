/- Contract: Mat. Conditions: none. -/
import Derived.Test.YtogbclcnmogaeaaGreatDoorSn1
import Derived.Test.YtogbclcnmogaeaaGreatDoorPnA
set_option linter.all false
namespace Go.Proofs.YtogbclcnmogaeaaGreatDoor
open Go.RowKit
set_option maxHeartbeats 1000000
set_option maxRecDepth 100000

def repB (s : ByteArray) (c : Nat) : ByteArray := ⟨(Lib.repeatL s.data.toList c).toArray⟩
theorem repB_any (s : ByteArray) (c : Nat) (w : World) (hc : c ≤ 1048576) (hs : s.size ≤ 1048576) :
    Calls Tryz.prog 120 #[.string s, .int .i64 c] w fun e w' => e = .returned (.string (repB s c)) ∧ Below w.heap.size w w' :=
  Tryz.strings_Repeat s c w (by omega) (by have := Nat.mul_le_mul hs hc; omega)

def slash0 : ByteArray := ⟨#[47, 92]⟩
def matRow (y : Int) (k : Nat) : ByteArray := if (k : Int) % 2 = 0 then repB (slash0.extract 0 1) y.toNat else repB (slash0.extract 1 2) y.toNat
def matK (y : Int) (k : Nat) : List ByteArray := (List.range k).map (matRow y)
theorem matK_succ (y : Int) (k : Nat) : matK y (k + 1) = matK y k ++ [matRow y k] := by simp [matK, List.range_succ]
theorem matK_len (y : Int) (k : Nat) : (matK y k).length = k := by simp [matK]
def matL (x y : Int) : List ByteArray := if matE x y = 0 then matK y (x - 1).toNat else []
theorem cStrO (x : ByteArray) : ∀ u ∈ (cStr x).cells.toList, u.oneCell' = true := by intro u hu; simp [cStr, Value.cells] at hu; subst hu; rfl
abbrev Strs (w : World) (a : Option Addr) (cap : Nat) (l : List ByteArray) : Prop := Reps cStr 1 w a cap l
abbrev OwnS (B : Nat) (w : World) (v : Value) (l : List ByteArray) : Prop := Own cStr 1 B 9 w v l
/-- A list of strings and an error came back. -/
def RetSE (W : World) (L : List ByteArray) (e : Int) (r : Ending) (w' : World) : Prop :=
  ∃ a cap, r = .returned (.tuple #[.slice a L.length cap, .int .i64 e]) ∧ Strs w' a cap L ∧ (∀ b, a = some b → W.heap.size ≤ b.block) ∧ Below W.heap.size W w'
theorem strs_nil (w : World) : Strs w none 0 [] := ⟨cStrS, Nat.le_refl _, Nat.zero_le _, fun _ => rfl, fun j u hu => by simp at hu⟩
theorem RetSE.none {W w' : World} {e : Int} {r : Ending} (h1 : r = .returned (.tuple #[.slice none 0 0, .int .i64 e])) (h4 : Below W.heap.size W w') : RetSE W [] e r w' :=
  ⟨.none, 0, h1, strs_nil _, (fun _ h => by cases h), h4⟩
theorem RetSE.own {W w' : World} {L : List ByteArray} {e : Int} {r : Ending} {B : Nat} (v : Value) (h1 : r = .returned (.tuple #[v, .int .i64 e])) (h2 : OwnS B w' v L) (hB : W.heap.size ≤ B) (h4 : Below W.heap.size W w') : RetSE W L e r w' := by
  obtain ⟨a, cap, rfl, hr, hf, _⟩ := h2.reps
  exact ⟨a, cap, h1, hr, fun b hb => Nat.le_trans hB (hf b hb).1, h4⟩

theorem Mat_any (x y : Int) (w : World) :
    Calls Tryz.prog 64 #[.int .i64 x, .int .i64 y] w fun r w' => RetSE w (matL x y) (matE x y) r w' := by
  have hck := fun w => checkMat_any x y w
  by_cases h : matE x y = 0
  · obtain ⟨h1, h2, h3, h4⟩ := matE_zero h
    have hL : matL x y = matK y (x - 1).toNat := if_pos h
    rw [hL, h]
    rw [h] at hck
    obtain ⟨m, hm⟩ : ∃ m : Nat, x = m + 1 := ⟨(x - 1).toNat, by omega⟩
    subst hm
    obtain ⟨c, rfl⟩ : ∃ c : Nat, y = c := ⟨y.toNat, by omega⟩
    have e0 : ((m : Int) + 1 - 1).toNat = m := by omega
    rw [e0]
    have HCK := hid hck; clear hck h hL e0
    go_enter Tryz.func64, Tryz.ntmps64
    go_wp2_with (go_at_call 124; refine (HCK.out _).mono ?_; rintro e w' ⟨rfl, rfl⟩)
    go_loopw [7, 8, 17] (fun v _ i wr => ∃ k : Nat, k ≤ m ∧ i = .int .i64 k ∧ OwnS w.heap.size wr v (matK c k) ∧ Below w.heap.size w wr) (fun _ _ i _ => m - (intOf i).toNat)
    case atStart => exact ⟨0, by omega, rfl, own_nil cStrS, Below.refl _ _⟩
    case round =>
      obtain ⟨k, hk, rfl, hO, hbr⟩ := hrel
      have hle : (matK c k).length ≤ 100 := by rw [matK_len]; omega
      have hbs := hbr.size
      by_cases hlt : k < m
      · have hs := matK_succ c k
        by_cases hp : (k : Int) % 2 = 0
        · have e : matRow c k = repB ((⟨#[47, 92]⟩ : ByteArray).extract 0 1) c := by rw [matRow, if_pos hp]; rfl
          rw [e] at hs
          have HS := hid hs; clear hs e
          go_wp2_with (first | ((go_at_call 120; refine (repB_any _ c _ (by omega) (by decide)).mono ?_; rintro e w1 ⟨rfl, hb1⟩); have hO1 := hO.below hb1; have hbr1 := bnext hbr hb1; have hbs1 := hbr1.size) | ((with_reducible refine wpList_app (l := (matK c k)) (ys := [(repB ((⟨#[47, 92]⟩ : ByteArray).extract 0 1) c)]) E_strs (by with_unfolding_all rfl) (by with_unfolding_all rfl) ((hO1).alloc _) (reps_new1 cStrS ((repB ((⟨#[47, 92]⟩ : ByteArray).extract 0 1) c)) _ _ (by simp) rfl) cStrO (by simp; omega) (by first | omega | (simp; omega)) (by simp; omega) ?_); intro v3 w3 ho3 hg3 hat3))
          refine ⟨⟨k + 1, by omega, by go_num, by rw [HS.out]; exact ho3, below_own (bal hbr1 (.cells #[.string (repB ((⟨#[47, 92]⟩ : ByteArray).extract 0 1) c)] 9)) hg3 (hO1.alloc _) (Nat.le_refl _)⟩, by simp [intOf]; omega⟩
        · have hp1 : (k : Int) % 2 = 1 := by omega
          have e : matRow c k = repB ((⟨#[47, 92]⟩ : ByteArray).extract 1 2) c := by rw [matRow, if_neg hp]; rfl
          rw [e] at hs
          have HS := hid hs; clear hs e hp
          go_wp2_with (first | ((go_at_call 120; refine (repB_any _ c _ (by omega) (by decide)).mono ?_; rintro e w1 ⟨rfl, hb1⟩); have hO1 := hO.below hb1; have hbr1 := bnext hbr hb1; have hbs1 := hbr1.size) | ((with_reducible refine wpList_app (l := (matK c k)) (ys := [(repB ((⟨#[47, 92]⟩ : ByteArray).extract 1 2) c)]) E_strs (by with_unfolding_all rfl) (by with_unfolding_all rfl) ((hO1).alloc _) (reps_new1 cStrS ((repB ((⟨#[47, 92]⟩ : ByteArray).extract 1 2) c)) _ _ (by simp) rfl) cStrO (by simp; omega) (by first | omega | (simp; omega)) (by simp; omega) ?_); intro v3 w3 ho3 hg3 hat3))
          refine ⟨⟨k + 1, by omega, by go_num, by rw [HS.out]; exact ho3, below_own (bal hbr1 (.cells #[.string (repB ((⟨#[47, 92]⟩ : ByteArray).extract 1 2) c)] 9)) hg3 (hO1.alloc _) (Nat.le_refl _)⟩, by simp [intOf]; omega⟩
      · have : k = m := by omega
        subst this
        clear hle
        go_wp2_with fail
        go_ret2
        exact RetSE.own _ rfl hO (Nat.le_refl _) hbr
  · have e1 : matE x y = 3 := by unfold matE at *; split at h <;> simp_all
    have e2 : matL x y = [] := if_neg h
    rw [e1] at hck
    rw [e1, e2]
    have HCK := hid hck; clear hck h e1 e2
    go_enter Tryz.func64, Tryz.ntmps64
    go_wp2_with (go_at_call 124; refine (HCK.out _).mono ?_; rintro e w' ⟨rfl, rfl⟩)
    go_ret2
    exact RetSE.none rfl (Below.refl _ _)
end Go.Proofs.YtogbclcnmogaeaaGreatDoor
