/- Plain facts: decimal texts, and small fractions as texts. No condition. -/
import Derived.Test.YtmomeggnegcheaaGreatDoorTxA
import Derived.Test.YtmomeggnegcheaaGreatDoorPaA
set_option linter.all false
namespace Go.Proofs.YtmomeggnegcheaaGreatDoor
open Go.RowKit
set_option maxHeartbeats 1000000
set_option maxRecDepth 100000

theorem decD_small {u : Nat} (h : u < 10) : Lib.decDigits u = [UInt8.ofNat (48 + u)] := by rw [Lib.decDigits, dif_pos h]
theorem decD_big {u : Nat} (h : ¬ u < 10) : Lib.decDigits u = Lib.decDigits (u / 10) ++ [UInt8.ofNat (48 + u % 10)] := by rw [Lib.decDigits, dif_neg h]
theorem itoaB_nat (u : Nat) : itoaB (u : Int) = ⟨(Lib.decDigits u).toArray⟩ := by unfold itoaB; rw [Lib.itoa_nonneg]
theorem digB {d : Nat} (h : d < 10) : (UInt8.ofNat (48 + d)).toNat = 48 + d := by
  rw [UInt8.toNat_ofNat']; omega
theorem decD_dig (u : Nat) : ∀ b ∈ Lib.decDigits u, 48 ≤ b.toNat ∧ b.toNat ≤ 57 := by
  induction u using Nat.strongRecOn with
  | _ u ih =>
    by_cases h : u < 10
    · rw [decD_small h]; intro b hb
      simp only [List.mem_singleton] at hb
      subst hb; rw [digB h]; omega
    · rw [decD_big h]; intro b hb
      rcases List.mem_append.1 hb with hb | hb
      · exact ih (u / 10) (by omega) b hb
      · simp only [List.mem_singleton] at hb
        subst hb; rw [digB (Nat.mod_lt _ (by decide))]; omega
theorem decD_pos (u : Nat) : 0 < (Lib.decDigits u).length := by
  by_cases h : u < 10
  · rw [decD_small h]; simp
  · rw [decD_big h]; simp
theorem decD_len : ∀ (k u : Nat), u < 10 ^ (k + 1) → (Lib.decDigits u).length ≤ k + 1
  | 0, u, h => by rw [decD_small (by simpa using h)]; simp
  | k + 1, u, h => by
    by_cases h1 : u < 10
    · rw [decD_small h1]; simp
    · rw [decD_big h1]
      have := decD_len k (u / 10) (by rw [Nat.pow_succ] at h; omega)
      simp; omega
/-- the number that digits give. -/
def valL (l : List UInt8) : Nat := l.foldl (fun n b => 10 * n + (b.toNat - 48)) 0
theorem valL_snoc (l : List UInt8) (b : UInt8) : valL (l ++ [b]) = 10 * valL l + (b.toNat - 48) := by simp [valL]
theorem valL_dec (u : Nat) : valL (Lib.decDigits u) = u := by
  induction u using Nat.strongRecOn with
  | _ u ih =>
    by_cases h : u < 10
    · rw [decD_small h]
      show 10 * 0 + ((UInt8.ofNat (48 + u)).toNat - 48) = u
      rw [digB h]; omega
    · rw [decD_big h, valL_snoc, ih (u / 10) (by omega), digB (Nat.mod_lt _ (by decide))]; omega
theorem valL_take {l : List UInt8} {k : Nat} (h : k < l.length) : valL (l.take (k + 1)) = 10 * valL (l.take k) + (l[k].toNat - 48) := by
  rw [List.take_succ_eq_append_getElem h, valL_snoc]
theorem valL_lt (l : List UInt8) (h : ∀ b ∈ l, 48 ≤ b.toNat ∧ b.toNat ≤ 57) : ∀ k, k ≤ l.length → valL (l.take k) < 10 ^ k
  | 0, _ => by simp [valL]
  | k + 1, hk => by
    rw [valL_take (by omega), Nat.pow_succ]
    have h1 := valL_lt l h k (by omega)
    have h2 := h l[k] (List.getElem_mem _)
    omega

/-! as texts -/
def bT (l : List UInt8) : ByteArray := ⟨l.toArray⟩
theorem bT_size (l : List UInt8) : (bT l).size = l.length := rfl
theorem bT_app (l m : List UInt8) : bT l ++ bT m = bT (l ++ m) := by unfold bT; rw [ByteArray.mk_append_mk]; try simp
theorem bT_at {l : List UInt8} {k : Nat} (h : k < l.length) : byteAt (bT l) k = (l[k].toNat : Int) := by
  rw [byteAt_in (by rw [bT_size]; exact h), ByteArray.getElem_eq_getElem_data]
  simp [bT]
theorem bT_extract (l : List UInt8) (i j : Nat) : (bT l).extract i j = bT ((l.take j).drop i) := by
  unfold bT
  apply ByteArray.ext
  rw [ByteArray.data_extract]
  apply Array.ext'
  simp only [Array.toList_extract, List.extract_eq_take_drop]
  rw [List.drop_take]
theorem itoaB_bT (u : Nat) : itoaB (u : Int) = bT (Lib.decDigits u) := itoaB_nat u

def dig10 : ByteArray := ⟨#[48, 49, 50, 51, 52, 53, 54, 55, 56, 57]⟩
theorem dig10_at : ∀ d : Nat, d < 10 → dig10.extract d (d + 1) = bT [UInt8.ofNat (48 + d)] := by decide

/-- where a decimal text stands while it is made from behind. -/
def decInv (N c : Nat) (t : List UInt8) : Prop := (c = 0 ∧ t ≠ [] ∧ t = Lib.decDigits N) ∨ ((0 < c ∨ t = []) ∧ Lib.decDigits N = Lib.decDigits c ++ t)
theorem decInv_start (N : Nat) : decInv N N [] := .inr ⟨.inr rfl, by simp⟩
theorem decInv_len {N c : Nat} {t : List UInt8} (h : decInv N c t) : t.length ≤ (Lib.decDigits N).length := by
  rcases h with ⟨_, _, rfl⟩ | ⟨_, e⟩
  · exact Nat.le_refl _
  · rw [e]; simp
theorem decInv_step {N c : Nat} {t : List UInt8} (h : decInv N c t) (hc : 0 < c ∨ t = []) : decInv N (c / 10) (UInt8.ofNat (48 + c % 10) :: t) := by
  have e : Lib.decDigits N = Lib.decDigits c ++ t := by
    rcases h with ⟨a, b, _⟩ | ⟨_, e⟩
    · rcases hc with h1 | h1
      · omega
      · exact absurd h1 b
    · exact e
  by_cases h1 : c < 10
  · refine .inl ⟨by omega, by simp, ?_⟩
    rw [e, decD_small h1, Nat.mod_eq_of_lt h1]; rfl
  · refine .inr ⟨.inl (by omega), ?_⟩
    rw [e, decD_big h1, List.append_assoc]; rfl
theorem decInv_end {N : Nat} {t : List UInt8} (h : decInv N 0 t) (ht : t ≠ []) : bT t = itoaB (N : Int) := by
  rw [itoaB_bT]
  rcases h with ⟨_, _, rfl⟩ | ⟨h1, _⟩
  · rfl
  · rcases h1 with h1 | h1
    · omega
    · exact absurd h1 ht

/-! fractions as texts -/
def textQ (p q : Nat) : ByteArray := if q = 1 then itoaB (p : Int) else itoaB (p : Int) ++ ⟨#[47]⟩ ++ itoaB (q : Int)
def textQL (p q : Nat) : List UInt8 := if q = 1 then Lib.decDigits p else Lib.decDigits p ++ 47 :: Lib.decDigits q
theorem textQ_bT (p q : Nat) : textQ p q = bT (textQL p q) := by
  unfold textQ textQL
  split
  · exact itoaB_bT p
  · rw [itoaB_bT, itoaB_bT, show (⟨#[47]⟩ : ByteArray) = bT [47] from rfl, bT_app, bT_app]; simp
theorem textQ_one (p : Nat) : textQ p 1 = itoaB (p : Int) := by unfold textQ; rw [if_pos rfl]
theorem textQ_size {p q : Nat} (hp : p < 1000000000) (hq : q < 1000000000) : (textQ p q).size ≤ 19 ∧ 0 < (textQ p q).size := by
  have h1 := decD_len 8 p hp
  have h2 := decD_len 8 q hq
  have h3 := decD_pos p
  rw [textQ_bT, bT_size]
  unfold textQL
  split
  · omega
  · simp; omega
theorem itoaB_len {p : Nat} (hp : p < 1000000000) : (itoaB (p : Int)).size ≤ 9 ∧ 0 < (itoaB (p : Int)).size := by
  have h1 := decD_len 8 p hp
  have h3 := decD_pos p
  rw [itoaB_bT, bT_size]; omega
/-- the place of the slash, or the length. -/
structure SlashAt (s : ByteArray) (k : Nat) : Prop where
  le : k ≤ s.size
  no : ∀ j : Nat, j < k → byteAt s j ≠ 47
  yes : k < s.size → byteAt s k = 47
theorem textQ_pre {p q j : Nat} (h : j < (itoaB (p : Int)).size) : 48 ≤ byteAt (textQ p q) j ∧ byteAt (textQ p q) j ≤ 57 := by
  rw [itoaB_bT, bT_size] at h
  have hl : j < (textQL p q).length := by
    unfold textQL; split
    · exact h
    · simp; omega
  have e : (textQL p q)[j] = (Lib.decDigits p)[j] := by
    have : (textQL p q)[j]? = (Lib.decDigits p)[j]? := by
      unfold textQL; split
      · rfl
      · rw [List.getElem?_append_left h]
    rw [List.getElem?_eq_getElem hl, List.getElem?_eq_getElem h] at this
    exact Option.some.inj this
  rw [textQ_bT, bT_at hl, e]
  have := decD_dig p _ (List.getElem_mem h)
  omega
theorem textQ_slash (p q : Nat) : SlashAt (textQ p q) (itoaB (p : Int)).size := by
  refine ⟨?_, fun j hj => by have := (textQ_pre (q := q) hj).1; omega, ?_⟩
  · rw [textQ_bT, bT_size, itoaB_bT, bT_size]; unfold textQL; split
    · exact Nat.le_refl _
    · simp
  · intro h
    rw [textQ_bT, bT_size, itoaB_bT, bT_size] at h
    rw [textQ_bT, itoaB_bT, bT_size, bT_at h]
    have : (textQL p q)[(Lib.decDigits p).length] = 47 := by
      unfold textQL at h ⊢
      split at h
      · omega
      · rename_i h1
        simp [h1]
    rw [this]; rfl
theorem textQ_num (p q : Nat) : (textQ p q).extract 0 (itoaB (p : Int)).size = itoaB (p : Int) := by
  rw [textQ_bT, itoaB_bT, bT_size, bT_extract]
  unfold textQL
  split <;> simp
theorem textQ_den {p q : Nat} (h : q ≠ 1) : (textQ p q).extract ((itoaB (p : Int)).size + 1) (textQ p q).size = itoaB (q : Int) := by
  rw [textQ_bT, itoaB_bT, itoaB_bT, bT_size, bT_size, bT_extract, List.take_of_length_le (Nat.le_refl _)]
  unfold textQL
  rw [if_neg h, List.drop_append]
  simp [List.drop_of_length_le]
theorem textQ_lt {p q : Nat} : (itoaB (p : Int)).size < (textQ p q).size ↔ q ≠ 1 := by
  rw [textQ_bT, itoaB_bT, bT_size, bT_size]
  unfold textQL
  split
  · simp [*]
  · simp [*]
theorem textQ_sz {p q : Nat} (h : q ≠ 1) : (textQ p q).size = (itoaB (p : Int)).size + 1 + (itoaB (q : Int)).size := by
  rw [textQ_bT, itoaB_bT, itoaB_bT, bT_size, bT_size, bT_size]
  unfold textQL
  rw [if_neg h]; simp; omega
theorem itoaB_dig {p k : Nat} (h : k < (itoaB (p : Int)).size) : 48 ≤ byteAt (itoaB (p : Int)) k ∧ byteAt (itoaB (p : Int)) k ≤ 57 := by
  have := textQ_pre (p := p) (q := 1) h
  rwa [textQ_one] at this

/-- digits to the base 10^9 of a small number. -/
def wD (n : Nat) : List Int := if n = 0 then [] else [(n : Int)]
theorem wD_len (n : Nat) : (wD n).length ≤ 1 := by unfold wD; split <;> simp
theorem wD_zero : wD 0 = [] := rfl
theorem wD_pos {n : Nat} (h : 0 < n) : wD n = [(n : Int)] := by unfold wD; rw [if_neg (by omega)]
end Go.Proofs.YtmomeggnegcheaaGreatDoor
