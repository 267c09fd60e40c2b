/- Plain facts on texts of moves: the pieces of a text, decimal numbers, the moves of a text. No condition. Contracts: integer and ParseMoves of the program. Conditions: sizes as stated; the tables and errors of strconv are laid. Contracts of the reference: Split, integer, ParseMoves, decimal, PrintMoves. Conditions: sizes as stated. Contracts of the reference: ParseMoves, decimal, PrintMoves. Conditions: sizes as stated. What the library reads, out of a row's own condition. No condition beyond each statement's own. -/
import Derived.Test.YtmomeggnegcheaaGreatDoorCiB
import Derived.Lib.Split
import Derived.Lib.AtoiAll
import Derived.Test.YtmomeggnegcheaaGreatDoorLib3
import Derived.Test.YtmomeggnegcheaaGreatDoorItA
import Derived.Test.YtmomeggnegcheaaGreatDoorSlB
import Derived.Lib.AtoiErrMem
import Derived.Test.YtmomeggnegcheaaGreatDoorRtM
import Derived.Test.YtmomeggnegcheaaGreatDoorRoM
import Derived.Stop.LaidErr
import Derived.LaidSub
import Derived.Test.YtmomeggnegcheaaGreatDoorOpC
set_option linter.all false
/- Plain facts on texts of moves: the pieces of a text, decimal numbers, the moves of a text. No condition. -/
namespace Go.Proofs.YtmomeggnegcheaaGreatDoor
open Go.RowKit
set_option maxRecDepth 100000

/-- the pieces of a text between bytes, one piece having begun. -/
def splR (c : UInt8) : List UInt8 → List UInt8 → List (List UInt8)
  | cur, [] => [cur]
  | cur, b :: r => if b = c then cur :: splR c [] r else splR c (cur ++ [b]) r
def spl (c : UInt8) (l : List UInt8) : List (List UInt8) := splR c [] l
theorem splR_free (c : UInt8) : ∀ (l cur : List UInt8), c ∉ l → splR c cur l = [cur ++ l]
  | [], cur, _ => by simp [splR]
  | b :: r, cur, h => by
    rw [splR, if_neg (fun e => h (by simp [e])), splR_free c r _ (fun e => h (by simp [e]))]; simp
theorem splR_hit (c : UInt8) : ∀ (p cur r : List UInt8), c ∉ p → splR c cur (p ++ c :: r) = (cur ++ p) :: spl c r
  | [], cur, r, _ => by rw [List.nil_append, splR, if_pos rfl]; simp [spl]
  | b :: p, cur, r, h => by
    rw [List.cons_append, splR, if_neg (fun e => h (by simp [e])), splR_hit c p _ r (fun e => h (by simp [e]))]; simp
theorem spl_free {c : UInt8} {l : List UInt8} (h : c ∉ l) : spl c l = [l] := by rw [spl, splR_free c l [] h]; rfl
theorem spl_hit {c : UInt8} {p : List UInt8} (r : List UInt8) (h : c ∉ p) : spl c (p ++ c :: r) = p :: spl c r := by rw [spl, splR_hit c p [] r h]; rfl
theorem splR_len (c : UInt8) : ∀ (l cur : List UInt8), (splR c cur l).length ≤ l.length + 1
  | [], cur => by simp [splR]
  | b :: r, cur => by
    rw [splR]
    split
    · have := splR_len c r []; simp; omega
    · have := splR_len c r (cur ++ [b]); simp; omega
theorem spl_pos (c : UInt8) : ∀ (l cur : List UInt8), 0 < (splR c cur l).length
  | [], cur => by simp [splR]
  | b :: r, cur => by
    rw [splR]
    split
    · simp
    · exact spl_pos c r _
theorem cut_ex (c : UInt8) (l : List UInt8) : c ∉ l ∨ ∃ p r, l = p ++ c :: r ∧ c ∉ p := by
  by_cases h : c ∈ l
  · obtain ⟨p, r, e, hp⟩ := List.eq_append_cons_of_mem h; exact .inr ⟨p, r, e, hp⟩
  · exact .inl h
theorem index_free {c : UInt8} : ∀ {l : List UInt8}, c ∉ l → Lib.index l [c] = -1
  | [], _ => by simp [Lib.index]
  | b :: r, h => by
    have hb : ([c] : List UInt8).isPrefixOf (b :: r) = false := by
      simp [List.isPrefixOf]; intro e; exact h (by simp [e])
    unfold Lib.index
    rw [hb, index_free (fun e => h (by simp [e]))]; rfl
theorem index_hit {c : UInt8} (r : List UInt8) : ∀ {p : List UInt8}, c ∉ p → Lib.index (p ++ c :: r) [c] = p.length
  | [], _ => by simp [Lib.index, List.isPrefixOf]
  | b :: p, h => by
    have hb : ([c] : List UInt8).isPrefixOf (b :: (p ++ c :: r)) = false := by
      simp [List.isPrefixOf]; intro e; exact h (by simp [e])
    rw [List.cons_append]
    unfold Lib.index
    rw [hb, index_hit r (fun e => h (by simp [e]))]
    have : ((p.length : Int) == -1) = false := by simp
    simp [this]
theorem splitK_spl {c : UInt8} : ∀ (k : Nat) (l : List UInt8), Lib.count l [c] ≤ k → Lib.splitK [c] 0 k l = spl c l
  | 0, l, h => by
    rcases cut_ex c l with hf | ⟨p, r, rfl, hp⟩
    · rw [spl_free hf]; rfl
    · have := Lib.count_hit (by simp) (index_hit r hp); omega
  | k + 1, l, h => by
    unfold Lib.splitK
    rcases cut_ex c l with hf | ⟨p, r, rfl, hp⟩
    · rw [index_free hf, if_pos (by rfl), spl_free hf]
    · have hc := Lib.count_hit (by simp) (index_hit r hp)
      rw [index_hit r hp, if_neg (by simp), spl_hit r hp]
      have e1 : (p ++ c :: r).drop (p.length + [c].length) = r := by simp
      have e2 : (p ++ c :: r).take (p.length + 0) = p := by simp
      rw [e1] at hc
      rw [Int.toNat_natCast, e1, e2, splitK_spl k r (by omega)]
theorem split_spl (c : UInt8) (l : List UInt8) : Lib.split l [c] = spl c l := splitK_spl _ l (Nat.le_refl _)
theorem splitB_spl (c : UInt8) (l : List UInt8) : Lib.splitB ⟨#[c]⟩ 0 (Lib.countB (bT l) ⟨#[c]⟩) (bT l) = (spl c l).map bT := by
  have h := Lib.splitB_data ⟨#[c]⟩ 0 (Lib.countB (bT l) ⟨#[c]⟩) (bT l)
  have e : Lib.splitK [c] 0 (Lib.countB (bT l) ⟨#[c]⟩) l = spl c l := splitK_spl _ l (Nat.le_refl _)
  have h2 : (Lib.splitB ⟨#[c]⟩ 0 (Lib.countB (bT l) ⟨#[c]⟩) (bT l)).map (·.data.toList) = spl c l := h.trans e
  rw [← h2, List.map_map]
  symm
  exact (List.map_congr_left fun x _ => rfl).trans (List.map_id _)
theorem cut_free {c : UInt8} {l : List UInt8} (h : c ∉ l) : Lib.cut l [c] = (l, [], false) := by
  unfold Lib.cut; rw [index_free h, if_neg (by decide)]
theorem cut_hit {c : UInt8} {p : List UInt8} (r : List UInt8) (h : c ∉ p) : Lib.cut (p ++ c :: r) [c] = (p, r, true) := by
  unfold Lib.cut; rw [index_hit r h, if_pos (by omega)]; simp

/-! decimal numbers -/
def isDig (b : UInt8) : Prop := 48 ≤ b.toNat ∧ b.toNat ≤ 57
instance (b : UInt8) : Decidable (isDig b) := inferInstanceAs (Decidable (_ ∧ _))
/-- a decimal number without zeros ahead. -/
def canon (l : List UInt8) : Prop := l ≠ [] ∧ (1 < l.length → l.head? ≠ some 48) ∧ ∀ b ∈ l, isDig b
instance (l : List UInt8) : Decidable (canon l) := inferInstanceAs (Decidable (_ ∧ _ ∧ _))
theorem u8_eq {b : UInt8} {n : Nat} (h : b.toNat = n) : b = UInt8.ofNat n := by rw [← h]; simp
theorem snoc_ind {α : Type} {P : List α → Prop} (h0 : P []) (h1 : ∀ m d, P m → P (m ++ [d])) (l : List α) : P l := by
  have h : ∀ r : List α, P r.reverse := by
    intro r
    induction r with
    | nil => exact h0
    | cons a r ih => rw [List.reverse_cons]; exact h1 _ _ ih
  simpa using h l.reverse
theorem head_app {m : List UInt8} (r : List UInt8) (h : m ≠ []) : (m ++ r).head? = m.head? := by
  cases m with
  | nil => exact absurd rfl h
  | cons a t => rfl
theorem valL_first : ∀ {l : List UInt8}, l ≠ [] → l.head? ≠ some 48 → (∀ b ∈ l, isDig b) → 0 < valL l := by
  intro l
  refine snoc_ind (P := fun l => l ≠ [] → l.head? ≠ some 48 → (∀ b ∈ l, isDig b) → 0 < valL l) ?_ ?_ l
  · intro h1; exact absurd rfl h1
  · intro m d ih h1 h2 h3
    rw [valL_snoc]
    by_cases hm : m = []
    · subst hm
      have hd := h3 d (by simp)
      unfold isDig at hd
      have : d ≠ 48 := fun e => h2 (by simp [e])
      have : d.toNat ≠ 48 := fun e => this (by have := u8_eq e; simpa using this)
      omega
    · have := ih hm (by rw [head_app _ hm] at h2; exact h2) (fun b hb => h3 b (by simp [hb]))
      omega
theorem canon_dec : ∀ {l : List UInt8}, canon l → Lib.decDigits (valL l) = l := by
  intro l
  refine snoc_ind (P := fun l => canon l → Lib.decDigits (valL l) = l) ?_ ?_ l
  · intro h; exact absurd rfl h.1
  · rintro m d ih ⟨h1, h2, h3⟩
    have hd := h3 d (by simp)
    unfold isDig at hd
    have ed : UInt8.ofNat (48 + (d.toNat - 48)) = d := by rw [show 48 + (d.toNat - 48) = d.toNat by omega]; simp
    rw [valL_snoc]
    by_cases hm : m = []
    · subst hm
      rw [show valL ([] : List UInt8) = 0 from rfl, decD_small (by omega), Nat.mul_zero, Nat.zero_add, ed]; rfl
    · have hl : 0 < m.length := List.length_pos_iff.2 hm
      have hh : m.head? ≠ some 48 := by
        have := h2 (by simp; omega)
        rw [head_app _ hm] at this; exact this
      have hv := valL_first hm hh (fun b hb => h3 b (by simp [hb]))
      rw [decD_big (by omega), show (10 * valL m + (d.toNat - 48)) / 10 = valL m by omega, show (10 * valL m + (d.toNat - 48)) % 10 = d.toNat - 48 by omega, ed, ih ⟨hm, fun _ => hh, fun b hb => h3 b (by simp [hb])⟩]
theorem dec_canon (u : Nat) : canon (Lib.decDigits u) := by
  refine ⟨fun e => by have := decD_pos u; rw [e] at this; simp at this, fun h e => ?_, fun b hb => decD_dig u b hb⟩
  by_cases hu : 0 < u
  · obtain ⟨b, r, e2, h1, h2⟩ := decD_first hu
    rw [e2] at e
    simp at e
    rw [e] at h1
    exact absurd h1 (by decide)
  · have : u = 0 := by omega
    subst this
    rw [decD_small (by decide)] at h
    simp at h
/-- a number of at most 9 digits. -/
def intL (l : List UInt8) : Option Nat := if canon l ∧ l.length ≤ 9 then some (valL l) else none
theorem valL_lt9 {l : List UInt8} (h : ∀ b ∈ l, isDig b) (h9 : l.length ≤ 9) : valL l < 1000000000 := by
  have := valL_lt l (fun b hb => h b hb) l.length (Nat.le_refl _)
  rw [List.take_length] at this
  have h2 := Nat.pow_le_pow_right (n := 10) (by decide) h9
  have : (10 : Nat) ^ 9 = 1000000000 := by decide
  omega
theorem parseU {l : List UInt8} : ∀ (acc : Nat), (∀ b ∈ l, isDig b) → (acc + 1) * 10 ^ l.length ≤ 1000000000000000000 → Lib.parseUint10 acc l = .ok (l.foldl (fun n b => 10 * n + (b.toNat - 48)) acc) := by
  induction l with
  | nil => intro acc _ _; rfl
  | cons b r ih =>
    intro acc h hb
    have hd := h b (by simp)
    unfold isDig at hd
    rw [List.length_cons, Nat.pow_succ] at hb
    have hp : 0 < 10 ^ r.length := Nat.pos_of_ne_zero (by simp)
    have h1 : (acc + 1) * 10 ≤ (acc + 1) * (10 ^ r.length * 10) := Nat.mul_le_mul_left _ (by omega)
    rw [Lib.parseUint10, if_pos hd, if_neg (by omega), if_neg (by omega), List.foldl_cons, show 10 * acc + (b.toNat - 48) = acc * 10 + (b.toNat - 48) by omega]
    refine ih _ (fun b hb => h b (by simp [hb])) ?_
    have h2 : (acc * 10 + (b.toNat - 48) + 1) * 10 ^ r.length ≤ ((acc + 1) * 10) * 10 ^ r.length := Nat.mul_le_mul_right _ (by omega)
    have h3 : ((acc + 1) * 10) * 10 ^ r.length = (acc + 1) * (10 ^ r.length * 10) := by ac_rfl
    omega
theorem atoi_canon {l : List UInt8} (h : canon l) (h9 : l.length ≤ 9) : Lib.atoiAll l = .ok (valL l : Int) := by
  obtain ⟨h1, _, h3⟩ := h
  have hp := Nat.pow_le_pow_right (n := 10) (by decide) h9
  have h10 : (10 : Nat) ^ 9 = 1000000000 := by decide
  have hu := parseU (l := l) 0 h3 (by omega)
  have hv := valL_lt9 h3 h9
  cases l with
  | nil => exact absurd rfl h1
  | cons c r =>
    have hc := h3 c (by simp)
    unfold isDig at hc
    unfold Lib.atoiAll
    simp only
    rw [if_neg (by omega), Lib.parseMag, if_neg (by simp), hu]
    have ev : List.foldl (fun n b => 10 * n + (b.toNat - 48)) 0 (c :: r) = valL (c :: r) := rfl
    simp only [ev]
    have hc2 : ¬ c.toNat = 45 := by omega
    simp only [hc2, not_false_eq_true, true_and, false_and, if_false]
    rw [if_neg (by omega)]
/-- what the program's test of a number comes to. -/
theorem intL_some {l : List UInt8} {v : Int} (h : Lib.atoiAll l = .ok v) (h9 : l.length ≤ 9) (hi : itoaB v = bT l) (h0 : 0 ≤ v) : intL l = some v.toNat := by
  obtain ⟨u, rfl⟩ : ∃ u : Nat, v = u := ⟨v.toNat, by omega⟩
  rw [itoaB_bT] at hi
  have e : Lib.decDigits u = l := by
    have := congrArg (fun s : ByteArray => s.data.toList) hi
    simpa [bT] using this
  have hc := dec_canon u
  rw [e] at hc
  rw [intL, if_pos ⟨hc, h9⟩, ← e, valL_dec]; rfl
theorem intL_canon {l : List UInt8} {n : Nat} (h : intL l = some n) : canon l ∧ l.length ≤ 9 ∧ n = valL l ∧ itoaB (n : Int) = bT l ∧ Lib.atoiAll l = .ok (n : Int) ∧ n < 1000000000 := by
  unfold intL at h
  split at h
  · rename_i hc
    cases h
    exact ⟨hc.1, hc.2, rfl, by rw [itoaB_bT, canon_dec hc.1], atoi_canon hc.1 hc.2, valL_lt9 hc.1.2.2 hc.2⟩
  · cases h

/-! the moves of a text -/
def both (a b : Option Nat) : Option (Int × Int) := match a, b with | some x, some y => some (x, y) | _, _ => none
def wordM (w : List UInt8) : Option (Int × Int) := match spl 45 w with | [a, b] => both (intL a) (intL b) | _ => none
theorem intL_no {l : List UInt8} (h : (45 : UInt8) ∈ l) : intL l = none := by
  unfold intL
  rw [if_neg]
  rintro ⟨⟨_, _, h3⟩, _⟩
  have := h3 _ h
  unfold isDig at this
  exact absurd this.1 (by decide)
theorem both_none (a : Option Nat) : both a none = none := by cases a <;> rfl
theorem wordM_free {w : List UInt8} (h : (45 : UInt8) ∉ w) : wordM w = none := by unfold wordM; rw [spl_free h]
theorem wordM_hit {p : List UInt8} (r : List UInt8) (h : (45 : UInt8) ∉ p) : wordM (p ++ 45 :: r) = both (intL p) (intL r) := by
  unfold wordM
  rw [spl_hit r h]
  rcases cut_ex 45 r with hf | ⟨q, t, rfl, hq⟩
  · rw [spl_free hf]
  · rw [spl_hit t hq, intL_no (l := q ++ 45 :: t) (by simp), both_none]
    have := spl_pos 45 t []
    cases hs : spl 45 t with
    | nil => unfold spl at hs; rw [hs] at this; simp at this
    | cons y z => rfl
/-- the moves so far, or the number of the first word with an error. -/
def movesGo : List (List UInt8) → Nat → List (Int × Int) → List (Int × Int) × Int × Int
  | [], _, acc => if 1000 < acc.length then ([], 0, 5) else (acc, 0, 0)
  | w :: r, k, acc => match wordM w with
    | some m => movesGo r (k + 1) (acc ++ [m])
    | none => ([], (k : Int) + 1, 25)
def parseT (s : List UInt8) : List (Int × Int) × Int × Int :=
  if 4096 < s.length then ([], 0, 26) else if s = [] then ([], 0, 0) else movesGo (spl 32 s) 0 []
theorem movesGo_some {w : List UInt8} {m : Int × Int} (r : List (List UInt8)) (k : Nat) (acc : List (Int × Int)) (h : wordM w = some m) : movesGo (w :: r) k acc = movesGo r (k + 1) (acc ++ [m]) := by
  rw [movesGo, h]
theorem movesGo_none {w : List UInt8} (r : List (List UInt8)) (k : Nat) (acc : List (Int × Int)) (h : wordM w = none) : movesGo (w :: r) k acc = ([], (k : Int) + 1, 25) := by
  rw [movesGo, h]
end Go.Proofs.YtmomeggnegcheaaGreatDoor

/- Contracts: integer and ParseMoves of the program. Conditions: sizes as stated; the tables and errors of strconv are laid. -/
namespace Go.Proofs.YtmomeggnegcheaaGreatDoor
open Go.RowKit
set_option maxHeartbeats 4000000
set_option maxRecDepth 100000

/-- what the library reads of the world: a table, a number, two errors. -/
structure LibW (w : World) : Prop where
  tab : TabW w
  max : ∃ m, w.cell? ⟨0, 0, none⟩ = some (.int .i64 m)
  syn : ∃ tp p, w.var? Tryz.prog "strconv.ErrSyntax" = some #[.iface tp p]
  rng : ∃ tp p, w.var? Tryz.prog "strconv.ErrRange" = some #[.iface tp p]
theorem gSyn : Tryz.prog.globalNamed "strconv.ErrSyntax" = some 1 := by kernel_rfl
theorem gRng : Tryz.prog.globalNamed "strconv.ErrRange" = some 2 := by kernel_rfl
theorem LibW.below {w w' : World} (h : LibW w) (hb : Below w.heap.size w w') : LibW w' := by
  refine ⟨h.tab.below hb, ?_, ?_, ?_⟩
  · obtain ⟨m, hm⟩ := h.max
    exact ⟨m, (hb.cell (World.block_lt_of_cell? w _ hm)).trans hm⟩
  · obtain ⟨tp, p, hp⟩ := h.syn
    exact ⟨tp, p, Joins.var_stays gSyn hp hb (Nat.le_refl _)⟩
  · obtain ⟨tp, p, hp⟩ := h.rng
    exact ⟨tp, p, Joins.var_stays gRng hp hb (Nat.le_refl _)⟩

theorem atoi_ok (l : List UInt8) (v : Int) (w : World) (hz : l.length ≤ 1048576) (h : Lib.atoiAll l = .ok v) :
    Calls Tryz.prog 134 #[.string (bT l)] w fun e w' => e = .returned (.tuple #[.int .i64 v, .nilIface]) ∧ Below w.heap.size w w' := by
  refine (Tryz.strconv_Atoi_ok (bT l) (by rw [bT_size]; omega) v h w).mono ?_
  rintro e w' ⟨rfl, hw⟩
  refine ⟨rfl, ?_⟩
  rcases hw with rfl | ⟨t, rfl⟩
  · exact Below.refl _ _
  · exact Lib.bytesWorld_below _ _ _
theorem atoi_no (l : List UInt8) (w : World) (hw : LibW w) (hz : l.length ≤ 1048576) (h : ∀ v, Lib.atoiAll l ≠ .ok v) :
    Calls Tryz.prog 134 #[.string (bT l)] w fun e w' => ∃ n t p, e = .returned (.tuple #[.int .i64 n, .iface t p]) ∧ Below w.heap.size w w' := by
  cases hA : Lib.atoiAll l
  · rename_i v
    exact absurd hA (h v)
  · obtain ⟨tp, p, hv⟩ := hw.syn
    refine (Tryz.strconv_Atoi_syntax_var (bT l) (by rw [bT_size]; omega) (hA.trans rfl) tp p w hv).mono ?_
    rintro e w' ⟨N, rfl, _, _, hb⟩
    exact ⟨_, _, _, rfl, hb⟩
  · obtain ⟨tp, p, hv⟩ := hw.rng
    refine (Tryz.strconv_Atoi_range_var (bT l) (by rw [bT_size]; omega) hA tp p w hv).mono ?_
    rintro e w' ⟨N, rfl, _, _, hb⟩
    exact ⟨_, _, _, rfl, hb⟩
theorem cutP_any (p r : List UInt8) (w : World) (hw : LibW w) (hp : (45 : UInt8) ∉ p) (hz : p.length + 1 + r.length ≤ 1048576) :
    Calls Tryz.prog 84 #[.string (bT (p ++ 45 :: r)), .string ⟨#[45]⟩] w fun e w' => e = .returned (.tuple #[.string (bT p), .string (bT r), .bool true]) ∧ Below w.heap.size w w' := by
  obtain ⟨m, hm⟩ := hw.max
  refine (Tryz.strings_Cut (bT (p ++ 45 :: r)) ⟨#[45]⟩ m w (by rw [bT_size]; simp; omega) hm).mono ?_
  rintro e w' ⟨rfl, n, rfl⟩
  have e1 : (bT (p ++ 45 :: r)).data.toList = p ++ 45 :: r := rfl
  have e2 : (⟨#[45]⟩ : ByteArray).data.toList = [45] := rfl
  rw [e1, e2, cut_hit r hp]
  exact ⟨rfl, below_drewN ⟨n, rfl⟩⟩
theorem cutF_any (l : List UInt8) (w : World) (hw : LibW w) (hl : (45 : UInt8) ∉ l) (hz : l.length ≤ 1048576) :
    Calls Tryz.prog 84 #[.string (bT l), .string ⟨#[45]⟩] w fun e w' => e = .returned (.tuple #[.string (bT l), .string (bT []), .bool false]) ∧ Below w.heap.size w w' := by
  obtain ⟨m, hm⟩ := hw.max
  refine (Tryz.strings_Cut (bT l) ⟨#[45]⟩ m w (by rw [bT_size]; omega) hm).mono ?_
  rintro e w' ⟨rfl, n, rfl⟩
  have e1 : (bT l).data.toList = l := rfl
  have e2 : (⟨#[45]⟩ : ByteArray).data.toList = [45] := rfl
  rw [e1, e2, cut_free hl]
  exact ⟨rfl, below_drewN ⟨n, rfl⟩⟩
theorem splitP_any (S : List UInt8) (w : World) (hw : LibW w) (hz : S.length ≤ 1048576) :
    Calls Tryz.prog 83 #[.string (bT S), .string ⟨#[32]⟩] w fun e w' => ∃ a, e = .returned (.slice a (spl 32 S).length (spl 32 S).length) ∧ Strs w' a (spl 32 S).length ((spl 32 S).map bT) ∧ Below w.heap.size w w' := by
  obtain ⟨m, hm⟩ := hw.max
  have hc := Tryz.strings_Split (bT S) ⟨#[32]⟩ m w (by rw [bT_size]; omega) hm (by decide)
  have hl : Lib.countB (bT S) ⟨#[32]⟩ + 1 = (spl 32 S).length := by
    have := Lib.splitB_all ⟨#[32]⟩ (by decide) 0 _ (bT S) rfl
    rw [splitB_spl, List.length_map] at this
    exact this.symm
  rw [splitB_spl, hl] at hc
  have hlen := splR_len 32 S []
  refine hc.mono ?_
  rintro e w' ⟨rfl, rfl⟩
  refine ⟨_, rfl, reps_newN cStrS ((spl 32 S).map bT) _ (by simp) (by unfold maxLen; unfold spl; omega) _ _ rfl ?_, bal (Below.refl _ _) _⟩
  simp only [List.map_map]
  rw [List.flatMap_map]
  generalize spl 32 S = L
  induction L with
  | nil => rfl
  | cons x r ih => rw [List.map_cons, List.flatMap_cons, ← ih]; rfl

theorem integer_any (l : List UInt8) (w : World) (hw : LibW w) (hz : l.length ≤ 1048576) :
    Calls Tryz.prog 85 #[.string (bT l)] w fun r w' => ∃ n : Int, r = .returned (.tuple #[.int .i64 n, .bool (intL l).isSome]) ∧ (∀ m : Nat, intL l = some m → n = m) ∧ Below w.heap.size w w' := by
  by_cases hA : ∃ v, Lib.atoiAll l = .ok v
  · obtain ⟨v, hv⟩ := hA
    have C := fun w => atoi_ok l v w hz hv
    by_cases h9 : l.length ≤ 9
    · have vb := Lib.atoiAll_bounds hv
      have hI := itoaOk_tab hw.tab v (by omega) (by omega)
      obtain ⟨s, hs⟩ : ∃ s, s = bT l := ⟨_, rfl⟩
      obtain ⟨I, hIe⟩ : ∃ I, I = itoaB v := ⟨_, rfl⟩
      unfold ItoaOk at hI
      rw [← hIe] at hI
      have hsz : s.size ≤ 9 := by rw [hs, bT_size]; exact h9
      by_cases he : I = s
      · have hd : (I.toList == s.toList) = true := by rw [eqS, he]; exact decide_eq_true rfl
        by_cases h0 : 0 ≤ v
        · have hi := intL_some hv h9 (by rw [← hIe, he, hs]) h0
          have H1 : (intL l).isSome = true := by rw [hi]; rfl
          have H2 : ∀ m : Nat, intL l = some m → v = m := fun m hm => by rw [hi] at hm; cases hm; omega
          rw [← hs] at C ⊢
          rw [H1]
          have HC := hid C; have HI := hid hI; have H2 := hid H2
          subst he
          clear C hI hi H1 hv vb hs hIe h9
          go_enter Tryz.func85, Tryz.ntmps85
          go_wp2_with fail
          refine (HC.out w).mono ?_
          rintro e w1 ⟨rfl, b1⟩
          go_wp2_with fail
          refine (HI.out w1 b1).mono ?_
          rintro e w2 ⟨rfl, b2⟩
          go_wp2_with fail
          go_ret2
          exact ⟨_, rfl, H2.out, bnext b1 b2⟩
        · have hi : intL l = none := by
            cases h : intL l with
            | none => rfl
            | some n => have := (intL_canon h).2.2.2.2.1; rw [hv] at this; cases this; omega
          have H1 : (intL l).isSome = false := by rw [hi]; rfl
          have H2 : ∀ m : Nat, intL l = some m → v = m := fun m hm => by rw [hi] at hm; cases hm
          rw [← hs] at C ⊢
          rw [H1]
          have hd0 : decide (0 ≤ v) = false := decide_eq_false h0
          have HC := hid C; have HI := hid hI; have H2 := hid H2
          subst he
          clear C hI hi H1 hv vb hs hIe h9
          go_enter Tryz.func85, Tryz.ntmps85
          go_wp2_with fail
          refine (HC.out w).mono ?_
          rintro e w1 ⟨rfl, b1⟩
          go_wp2_with fail
          refine (HI.out w1 b1).mono ?_
          rintro e w2 ⟨rfl, b2⟩
          go_wp2_with fail
          go_ret2
          exact ⟨_, rfl, H2.out, bnext b1 b2⟩
      · have hd : (I.toList == s.toList) = false := by rw [eqS]; exact decide_eq_false he
        have hi : intL l = none := by
          cases h : intL l with
          | none => rfl
          | some n =>
            obtain ⟨_, _, _, e1, e2, _⟩ := intL_canon h
            rw [hv] at e2; cases e2
            exact absurd (by rw [hIe, hs]; exact e1) he
        have H1 : (intL l).isSome = false := by rw [hi]; rfl
        have H2 : ∀ m : Nat, intL l = some m → v = m := fun m hm => by rw [hi] at hm; cases hm
        rw [← hs] at C ⊢
        rw [H1]
        have HC := hid C; have HI := hid hI; have H2 := hid H2
        clear C hI hi H1 hv vb hs hIe h9 he
        go_enter Tryz.func85, Tryz.ntmps85
        go_wp2_with fail
        refine (HC.out w).mono ?_
        rintro e w1 ⟨rfl, b1⟩
        go_wp2_with fail
        refine (HI.out w1 b1).mono ?_
        rintro e w2 ⟨rfl, b2⟩
        go_wp2_with fail
        go_ret2
        exact ⟨_, rfl, H2.out, bnext b1 b2⟩
    · have hi : intL l = none := by unfold intL; rw [if_neg (fun h => h9 h.2)]
      have H1 : (intL l).isSome = false := by rw [hi]; rfl
      have H2 : ∀ m : Nat, intL l = some m → v = m := fun m hm => by rw [hi] at hm; cases hm
      obtain ⟨s, hs⟩ : ∃ s, s = bT l := ⟨_, rfl⟩
      have hsz : ¬ s.size ≤ 9 := by rw [hs, bT_size]; exact h9
      rw [← hs] at C ⊢
      rw [H1]
      have HC := hid C; have H2 := hid H2
      clear C hi H1 hv hs h9
      go_enter Tryz.func85, Tryz.ntmps85
      go_wp2_with fail
      refine (HC.out w).mono ?_
      rintro e w1 ⟨rfl, b1⟩
      go_wp2_with fail
      go_ret2
      exact ⟨_, rfl, H2.out, b1⟩
  · have C := fun w hw => atoi_no l w hw hz (fun v h => hA ⟨v, h⟩)
    have hi : intL l = none := by
      cases h : intL l with
      | none => rfl
      | some n => exact absurd ⟨_, (intL_canon h).2.2.2.2.1⟩ hA
    rw [hi]
    obtain ⟨s, hs⟩ : ∃ s, s = bT l := ⟨_, rfl⟩
    rw [← hs] at C ⊢
    have HC := hid C
    clear C hi hA hs
    go_enter Tryz.func85, Tryz.ntmps85
    go_wp2_with fail
    refine (HC.out w hw).mono ?_
    rintro e w1 ⟨n, t, p, rfl, b1⟩
    go_wp2_with fail
    go_ret2
    exact ⟨_, rfl, (fun m hm => by cases hm), b1⟩

/-- a text's answer: the moves, the number of a word, the error. -/
def RetT (W : World) (R : List (Int × Int) × Int × Int) (r : Ending) (w' : World) : Prop :=
  ∃ a cap, r = .returned (.tuple #[.slice a R.1.length cap, .int .i64 R.2.1, .int .i64 R.2.2]) ∧ Pairs w' a cap R.1 ∧ Below W.heap.size W w'
theorem RetT.none {W w' : World} {R : List (Int × Int) × Int × Int} {r : Ending} {k e : Int} (hR : R = ([], k, e)) (h1 : r = .returned (.tuple #[.slice none 0 0, .int .i64 k, .int .i64 e])) (hb : Below W.heap.size W w') : RetT W R r w' := by
  subst hR; exact ⟨.none, 0, h1, pairs_nil _, hb⟩
theorem atD_mapT (L : List (List UInt8)) (k : Nat) (h : k < L.length) : atD ByteArray.empty (L.map bT) k = bT (atD [] L k) := by simp [atD, h]
theorem spl_sum : ∀ (c : UInt8) (l cur : List UInt8), ∀ x ∈ splR c cur l, x.length ≤ cur.length + l.length
  | c, [], cur, x, hx => by simp [splR] at hx; subst hx; simp
  | c, b :: r, cur, x, hx => by
    rw [splR] at hx
    split at hx
    · rcases List.mem_cons.1 hx with rfl | hx
      · simp
      · have := spl_sum c r [] x hx; simp at this ⊢; omega
    · have := spl_sum c r (cur ++ [b]) x hx; simp at this ⊢; omega
theorem both_some {a b : Option Nat} {x y : Nat} (ha : a = some x) (hb : b = some y) : both a b = some ((x : Int), (y : Int)) := by subst ha hb; rfl
theorem both_no1 {a b : Option Nat} (ha : a = none) : both a b = none := by subst ha; rfl
theorem both_no2 {a b : Option Nat} (hb : b = none) : both a b = none := by subst hb; exact both_none _

theorem ParseMoves_any (S : List UInt8) (w : World) (hw : LibW w) (hz : S.length ≤ 1048576) :
    Calls Tryz.prog 31 #[.string (bT S)] w fun r w' => RetT w (parseT S) r w' := by
  have hsz := bT_size S
  by_cases h1 : 4096 < S.length
  · have hR : parseT S = ([], 0, 26) := by rw [parseT, if_pos h1]
    have HR := hid hR; clear hR
    obtain ⟨s, hs⟩ : ∃ s, s = bT S := ⟨_, rfl⟩
    rw [← hs] at hsz ⊢
    have hbig : 4096 < s.size := by omega
    clear hsz hs
    go_enter Tryz.func31, Tryz.ntmps31
    go_wp2_with fail
    go_ret3
    exact RetT.none HR.out rfl (Below.refl _ _)
  by_cases h2 : S = []
  · have hR : parseT S = ([], 0, 0) := by rw [parseT, if_neg h1, if_pos h2]
    have HR := hid hR; clear hR
    have e : bT S = ByteArray.empty := by rw [h2]; rfl
    rw [e]
    clear hsz h2 e
    go_enter Tryz.func31, Tryz.ntmps31
    go_wp2_with fail
    go_ret3
    exact RetT.none HR.out rfl (Below.refl _ _)
  have hR : parseT S = movesGo (spl 32 S) 0 [] := by rw [parseT, if_neg h1, if_neg h2]
  have hLn := splR_len 32 S []
  have hLs := spl_sum 32 S []
  have CS := fun w hw => splitP_any S w hw hz
  obtain ⟨L, hL⟩ : ∃ L, L = spl 32 S := ⟨_, rfl⟩
  rw [show splR 32 [] S = L from hL.symm] at hLn hLs
  rw [← hL] at CS hR
  obtain ⟨s, hs⟩ : ∃ s, s = bT S := ⟨_, rfl⟩
  have hne : (s.toList == []) = false := by
    rw [show ([] : List UInt8) = ByteArray.empty.toList from (by rw [ByteArray.toList_eq]; rfl), eqS]
    refine decide_eq_false (fun e => h2 ?_)
    rw [hs] at e
    have := congrArg (fun s : ByteArray => s.data.toList) e
    simpa [bT] using this
  have hne2 : ¬ s = ByteArray.empty := by
    intro e; rw [hs] at e
    have := congrArg (fun s : ByteArray => s.data.toList) e
    exact h2 (by simpa [bT] using this)
  rw [← hs] at CS hsz ⊢
  have hsz2 : s.size ≤ 4096 := by omega
  have HCS := hid CS; have HR := hid hR; have HLS := hid hLs
  have hml : (L.map bT).length = L.length := by simp
  have HML := hid hml
  have hLn2 : L.length ≤ 4097 := by omega
  clear CS hR hLs hLn hL hs h2 hsz h1 hml
  go_enter Tryz.func31, Tryz.ntmps31
  go_wp2_with fail
  refine (HCS.out w hw).mono ?_
  rintro e w1 ⟨aw, rfl, hW, b1⟩
  have hlw := hw.below b1
  go_wp2_with fail
  go_loopw [24, 5, 6, 7, 8, 9, 10, 11, 12, 13, 14] (fun i ov _ _ _ _ _ _ _ _ _ wr => ∃ (k : Nat) (acc : List (Int × Int)), k ≤ L.length ∧ i = .int .i64 k ∧ acc.length = k ∧ movesGo (L.drop k) k acc = movesGo L 0 [] ∧ SL w1.heap.size w1 wr [pOwn cPair 2 55 ov acc]) (fun i _ _ _ _ _ _ _ _ _ _ _ => L.length - (intOf i).toNat)
  case atStart => exact ⟨0, [], by omega, rfl, rfl, rfl, (SL.nil w1).nilS cPairS⟩
  case round =>
    obtain ⟨k, acc, hk, rfl, hal, hgo, hO⟩ := hrel
    have hWr := hW.below hO.b
    have hlr := hlw.below hO.b
    have HAL := hid hal; clear hal
    by_cases hlt : k < L.length
    · have hat := atD_mapT L k hlt
      have hdr : L.drop k = atD [] L k :: L.drop (k + 1) := by rw [List.drop_eq_getElem_cons hlt]; simp [atD, hlt]
      have hmem : atD [] L k ∈ L := by simp [atD, hlt]
      have hwl := HLS.out _ hmem
      simp only [List.length_nil, Nat.zero_add] at hwl
      obtain ⟨W, hW'⟩ : ∃ W, W = atD [] L k := ⟨_, rfl⟩
      rw [← hW'] at hat hdr hwl
      rw [hdr] at hgo
      have HAT := hid hat
      clear hat hdr hmem hW'
      rcases cut_ex 45 W with hf | ⟨p, r, rfl, hp⟩
      · rw [movesGo_none _ _ _ (wordM_free hf)] at hgo
        have CC := fun w hw => cutF_any W w hw hf (by omega)
        have CI := fun w hw => integer_any W w hw (by omega)
        have CJ := fun w hw => integer_any [] w hw (by simp)
        have HG := hid hgo; have HC := hid CC; have HI := hid CI; have HJ := hid CJ
        clear hgo CC CI CJ hf
        obtain ⟨sw, hsw⟩ : ∃ s, s = bT W := ⟨_, rfl⟩
        rw [← hsw] at HAT HC HI
        clear hsw
        go_wp2_with ((with_reducible refine wpList_idxN _ ByteArray.empty E_strs F_str cStr1 (by with_unfolding_all rfl) (by with_unfolding_all rfl) (hWr) (HML.out) (by first | omega | (simp; done)) (by first | omega | (simp; done)) (fun _ => by with_unfolding_all rfl) (fun _ => ?_)); rw [HAT.out])
        refine (HC.out _ hlr).mono ?_
        rintro e w2 ⟨rfl, b2⟩
        go_wp2_with fail
        refine (HI.out _ (hlr.below b2)).mono ?_
        rintro e w3 ⟨n3, rfl, _, b3⟩
        go_wp2_with fail
        refine (HJ.out _ (hlr.below (bnext b2 b3))).mono ?_
        rintro e w4 ⟨n4, rfl, _, b4⟩
        go_wp2_with fail
        go_ret3
        exact RetT.none (by rw [HR.out]; exact HG.out.symm) rfl (bnext b1 (bnext hO.b (bnext b2 (bnext b3 b4))))
      · have hwm := wordM_hit r hp
        have hpr : p.length + 1 + r.length ≤ 1048576 := by simp at hwl; omega
        have CC := fun w hw => cutP_any p r w hw hp hpr
        have CI := fun w hw => integer_any p w hw (by omega)
        have CJ := fun w hw => integer_any r w hw (by omega)
        have HC := hid CC
        obtain ⟨sw, hsw⟩ : ∃ s, s = bT (p ++ 45 :: r) := ⟨_, rfl⟩
        rw [← hsw] at HAT HC
        obtain ⟨sp, hsp⟩ : ∃ s, s = bT p := ⟨_, rfl⟩
        rw [← hsp] at HC CI
        obtain ⟨sr, hsr⟩ : ∃ s, s = bT r := ⟨_, rfl⟩
        rw [← hsr] at HC CJ
        clear CC hsw hsp hsr hwl hpr hp
        cases hi : intL p with
        | none =>
          rw [movesGo_none _ _ _ (hwm.trans (both_no1 hi))] at hgo
          rw [hi] at CI
          have HG := hid hgo; have HI := hid CI; have HJ := hid CJ
          clear hgo CI CJ hwm hi
          cases hj : (intL r).isSome
          all_goals
            have CJ := HJ.out
            rw [hj] at CJ
            have HJ2 := hid CJ
            clear CJ hj HJ
            go_wp2_with ((with_reducible refine wpList_idxN _ ByteArray.empty E_strs F_str cStr1 (by with_unfolding_all rfl) (by with_unfolding_all rfl) (hWr) (HML.out) (by first | omega | (simp; done)) (by first | omega | (simp; done)) (fun _ => by with_unfolding_all rfl) (fun _ => ?_)); rw [HAT.out])
            refine (HC.out _ hlr).mono ?_
            rintro e w2 ⟨rfl, b2⟩
            go_wp2_with fail
            refine (HI.out _ (hlr.below b2)).mono ?_
            rintro e w3 ⟨n3, rfl, _, b3⟩
            go_wp2_with fail
            refine (HJ2.out _ (hlr.below (bnext b2 b3))).mono ?_
            rintro e w4 ⟨n4, rfl, _, b4⟩
            go_wp2_with fail
            go_ret3
            exact RetT.none (by rw [HR.out]; exact HG.out.symm) rfl (bnext b1 (bnext hO.b (bnext b2 (bnext b3 b4))))
        | some x =>
          rw [hi] at CI
          cases hj : intL r with
          | none =>
            rw [movesGo_none _ _ _ (hwm.trans (both_no2 hj))] at hgo
            rw [hj] at CJ
            have HG := hid hgo; have HI := hid CI; have HJ := hid CJ
            clear hgo CI CJ hwm hi hj
            go_wp2_with ((with_reducible refine wpList_idxN _ ByteArray.empty E_strs F_str cStr1 (by with_unfolding_all rfl) (by with_unfolding_all rfl) (hWr) (HML.out) (by first | omega | (simp; done)) (by first | omega | (simp; done)) (fun _ => by with_unfolding_all rfl) (fun _ => ?_)); rw [HAT.out])
            refine (HC.out _ hlr).mono ?_
            rintro e w2 ⟨rfl, b2⟩
            go_wp2_with fail
            refine (HI.out _ (hlr.below b2)).mono ?_
            rintro e w3 ⟨n3, rfl, _, b3⟩
            go_wp2_with fail
            refine (HJ.out _ (hlr.below (bnext b2 b3))).mono ?_
            rintro e w4 ⟨n4, rfl, _, b4⟩
            go_wp2_with fail
            go_ret3
            exact RetT.none (by rw [HR.out]; exact HG.out.symm) rfl (bnext b1 (bnext hO.b (bnext b2 (bnext b3 b4))))
          | some y =>
            rw [movesGo_some _ _ _ (hwm.trans (both_some hi hj))] at hgo
            rw [hj] at CJ
            have HG := hid hgo; have HI := hid CI; have HJ := hid CJ
            have hac : acc.length ≤ 100000 := by rw [HAL.out]; omega
            clear hgo CI CJ hwm hi hj
            go_wp2_with ((with_reducible refine wpList_idxN _ ByteArray.empty E_strs F_str cStr1 (by with_unfolding_all rfl) (by with_unfolding_all rfl) (hWr) (HML.out) (by first | omega | (simp; done)) (by first | omega | (simp; done)) (fun _ => by with_unfolding_all rfl) (fun _ => ?_)); rw [HAT.out])
            refine (HC.out _ hlr).mono ?_
            rintro e w2 ⟨rfl, b2⟩
            go_wp2_with fail
            refine (HI.out _ (hlr.below b2)).mono ?_
            rintro e w3 ⟨n3, rfl, hn3, b3⟩
            have e3 := hn3 x rfl
            subst e3
            go_wp2_with fail
            refine (HJ.out _ (hlr.below (bnext b2 b3))).mono ?_
            rintro e w4 ⟨n4, rfl, hn4, b4⟩
            have e4 := hn4 y rfl
            subst e4
            have hO4 := ((hO.mono b2).mono b3).mono b4
            clear hn3 hn4
            go_wp2_with ((with_reducible refine wpList_pushL (y := ((x : Int), (y : Int))) 0 E_moves (by with_unfolding_all rfl) (by with_unfolding_all rfl) (hO4) (by with_unfolding_all rfl) cPairO ⟨rfl, rfl⟩ (by first | with_unfolding_all rfl | simp) (by with_unfolding_all rfl) (by first | omega | (simp; omega)) (by first | omega | (simp; omega)) ?_); intro v5 w5 hO5)
            exact ⟨⟨k + 1, _, by omega, by go_num, by rw [List.length_append, HAL.out]; rfl, HG.out, hO5⟩, by simp [intOf]; omega⟩
    · have hkl : k = L.length := by omega
      subst hkl
      rw [List.drop_length, movesGo] at hgo
      obtain ⟨ao, capo, rfl, hro⟩ := hO.slice 0 rfl
      have hb := hO.b
      have hac : acc.length ≤ 100000 := by rw [HAL.out]; omega
      clear HAL
      by_cases hm : 1000 < acc.length
      · rw [if_pos hm] at hgo
        have hme : manyE acc.length = 5 := by unfold manyE; rw [if_pos hm]
        have HG := hid hgo; have HME := hid hme
        clear hgo hme
        go_wp2_with fail
        refine (checkMoves_any ao capo acc.length _ (by omega)).mono ?_
        rw [HME.out]
        rintro e w' ⟨rfl, rfl⟩
        go_wp2_with fail
        go_ret3
        exact RetT.none (by rw [HR.out]; exact HG.out.symm) rfl (bnext b1 hb)
      · rw [if_neg hm] at hgo
        have hme : manyE acc.length = 0 := by unfold manyE; rw [if_neg hm]
        have HG := hid hgo; have HME := hid hme
        clear hgo hme
        go_wp2_with fail
        refine (checkMoves_any ao capo acc.length _ (by omega)).mono ?_
        rw [HME.out]
        rintro e w' ⟨rfl, rfl⟩
        go_wp2_with fail
        go_ret3
        rw [HR.out, ← HG.out]
        exact ⟨ao, capo, rfl, hro, bnext b1 hb⟩
end Go.Proofs.YtmomeggnegcheaaGreatDoor

/- Contracts of the reference: Split, integer, ParseMoves, decimal, PrintMoves. Conditions: sizes as stated. -/
namespace Go.Proofs.YtmomeggnegcheaaGreatDoor
open Go.RowKit
set_option maxHeartbeats 4000000
set_option maxRecDepth 100000

theorem take_drop_step {S : List UInt8} {i f : Nat} (h : i < S.length) (hf : f ≤ i) : (S.take (i + 1)).drop f = (S.take i).drop f ++ [S[i]] := by
  rw [List.take_succ_eq_append_getElem h, List.drop_append_of_le_length (by simp; omega)]
theorem rSplit_any (c : UInt8) (S : List UInt8) (w : World) (hz : S.length ≤ 1048576) :
    Calls Tryz.prog 87 #[.string (bT S), .int .u8 (c.toNat : Int)] w fun r w' => ∃ v, r = .returned v ∧ Own cStr 1 w.heap.size 9 w' v ((spl c S).map bT) ∧ Below w.heap.size w w' := by
  have hsz := bT_size S
  have hex : ∀ i j : Nat, (bT S).extract i j = bT ((S.take j).drop i) := fun i j => bT_extract S i j
  have hby : ∀ (i : Nat) (h : i < (bT S).size) (h2 : i < S.length), (((bT S)[i]'h).toNat : Int) = (S[i].toNat : Int) := fun i h h2 => by rw [← byteAt_in h, bT_at h2]
  obtain ⟨s, hs⟩ : ∃ s, s = bT S := ⟨_, rfl⟩
  rw [← hs] at hsz hex ⊢
  have hby2 : ∀ (i : Nat) (h : i < s.size) (h2 : i < S.length), ((s[i]'h).toNat : Int) = (S[i].toNat : Int) := by subst hs; exact hby
  have HEX := hid hex; have HBY := hid hby2; have HSZ := hid hsz
  have hz2 : s.size ≤ 1048576 := by omega
  clear hby hby2 hex hs
  go_enter Tryz.func87, Tryz.ntmps87
  go_wp2_with fail
  go_loopw [5, 6, 7] (fun ov fv iv wr => ∃ (i f : Nat) (o : List (List UInt8)), iv = .int .i64 i ∧ fv = .int .i64 f ∧ o.length ≤ i ∧
      ((i ≤ s.size ∧ f ≤ i ∧ spl c S = o ++ splR c ((S.take i).drop f) (S.drop i)) ∨ (i = s.size + 1 ∧ spl c S = o)) ∧ SL w.heap.size w wr [pOwn cStr 1 9 ov (o.map bT)]) (fun _ _ iv _ => s.size + 2 - (intOf iv).toNat)
  case atStart => exact ⟨0, 0, [], rfl, rfl, Nat.le_refl _, .inl ⟨by omega, by omega, by simp [spl]⟩, (SL.nil w).nilS cStrS⟩
  case round =>
    obtain ⟨i, f, o, rfl, rfl, hol, hcase, hO⟩ := hrel
    have hom : (o.map bT).length ≤ 1048578 := by rw [List.length_map]; omega
    rcases hcase with ⟨hi, hf, hsp⟩ | ⟨hi, hsp⟩
    · by_cases he : i = s.size
      · have hdr : S.drop i = [] := List.drop_of_length_le (by omega)
        rw [hdr, splR] at hsp
        have hx := HEX.out f i
        have HX := hid hx; have HS := hid hsp
        clear hx hsp hdr hsz
        have heq : ((i : Int) == s.size) = true := by simp [he]
        have HE := hid he; clear he
        go_wp2_with (first | (rw [HX.out]) | ((with_reducible refine wpList_pushL (y := (bT ((S.take i).drop f))) 0 E_strs (by with_unfolding_all rfl) (by with_unfolding_all rfl) (hO) (by with_unfolding_all rfl) cStrO ⟨rfl, rfl⟩ (by first | with_unfolding_all rfl | simp) (by with_unfolding_all rfl) (by first | omega | (simp; omega)) (by first | omega | (simp; omega)) ?_); intro v3 w3 hS3))
        refine ⟨⟨i + 1, i + 1, o ++ [(S.take i).drop f], by go_num, by go_num, by simp; omega, .inr ⟨by have := HE.out; omega, by rw [HS.out]⟩, by rw [List.map_append]; exact hS3⟩, ?_⟩
        simp [intOf]; omega
      · have hlt : i < s.size := by omega
        have hltS : i < S.length := by omega
        have hdr : S.drop i = S[i] :: S.drop (i + 1) := List.drop_eq_getElem_cons hltS
        rw [hdr, splR] at hsp
        have hbi := HBY.out i hlt hltS
        have heq : ((i : Int) == s.size) = false := by simp; omega
        by_cases hb : S[i] = c
        · rw [if_pos hb] at hsp
          have hd : (((s[i]'hlt).toNat : Int) == (c.toNat : Int)) = true := by rw [hbi, hb]; simp
          have hx := HEX.out f i
          have hn : (S.take (i + 1)).drop (i + 1) = [] := List.drop_of_length_le (by simp; omega)
          have HX := hid hx; have HS := hid hsp; have HNN := hid hn
          clear hx hsp hn hb hbi hdr he hsz
          go_wp2_with (first | (rw [HX.out]) | ((with_reducible refine wpList_pushL (y := (bT ((S.take i).drop f))) 0 E_strs (by with_unfolding_all rfl) (by with_unfolding_all rfl) (hO) (by with_unfolding_all rfl) cStrO ⟨rfl, rfl⟩ (by first | with_unfolding_all rfl | simp) (by with_unfolding_all rfl) (by first | omega | (simp; omega)) (by first | omega | (simp; omega)) ?_); intro v3 w3 hS3))
          refine ⟨⟨i + 1, i + 1, o ++ [(S.take i).drop f], by go_num, by go_num, by simp; omega, .inl ⟨by omega, by omega, by rw [HS.out, HNN.out]; simp⟩, by rw [List.map_append]; exact hS3⟩, ?_⟩
          simp [intOf]; omega
        · rw [if_neg hb] at hsp
          have hd : (((s[i]'hlt).toNat : Int) == (c.toNat : Int)) = false := by
            rw [hbi, beq_eq_false_iff_ne]
            intro e
            exact hb (by have : S[i].toNat = c.toNat := by omega
                         have := u8_eq this; simpa using this)
          rw [← take_drop_step hltS hf] at hsp
          have HS := hid hsp
          clear hsp hb hbi hdr he hsz
          go_wp2_with fail
          refine ⟨⟨i + 1, f, o, by go_num, rfl, by omega, .inl ⟨by omega, by omega, HS.out⟩, hO⟩, ?_⟩
          simp [intOf]; omega
    · have hgt : ¬ (i : Int) ≤ s.size := by omega
      have HS := hid hsp
      clear hsp hi
      go_wp2_with fail
      go_ret
      exact ⟨_, rfl, by rw [HS.out]; exact hO.own 0 rfl, hO.b⟩

theorem rinteger_any (l : List UInt8) (w : World) (hz : l.length ≤ 1048576) :
    Calls Tryz.prog 88 #[.string (bT l)] w fun r w' => ∃ n : Int, r = .returned (.tuple #[.int .i64 n, .bool (intL l).isSome]) ∧ (∀ m : Nat, intL l = some m → n = m) ∧ w = w' := by
  have hsz := bT_size l
  have hby : ∀ (i : Nat) (h : i < (bT l).size) (h2 : i < l.length), (((bT l)[i]'h).toNat : Int) = (l[i].toNat : Int) := fun i h h2 => by rw [← byteAt_in h, bT_at h2]
  obtain ⟨s, hs⟩ : ∃ s, s = bT l := ⟨_, rfl⟩
  rw [← hs] at hsz ⊢
  have hby2 : ∀ (i : Nat) (h : i < s.size) (h2 : i < l.length), ((s[i]'h).toNat : Int) = (l[i].toNat : Int) := by subst hs; exact hby
  have hz2 : s.size ≤ 1048576 := by omega
  clear hby hs
  have bad : ¬ (canon l ∧ l.length ≤ 9) → (intL l).isSome = false ∧ ∀ m : Nat, intL l = some m → (0 : Int) = m := fun h => by
    have : intL l = none := by unfold intL; rw [if_neg h]
    rw [this]; exact ⟨rfl, fun m hm => by cases hm⟩
  by_cases h0 : l = []
  · obtain ⟨b1, b2⟩ := bad (fun h => h.1.1 h0)
    have hs0 : s.size = 0 := by rw [hsz, h0]; rfl
    have hd : ((s.size : Int) == 0) = true := by simp [hs0]
    have HS0 := hid hs0; have B2 := hid b2
    rw [b1]
    clear hs0 b1 b2 bad hby2 hsz h0
    go_enter Tryz.func88, Tryz.ntmps88
    go_wp2_with fail
    all_goals go_ret2
    all_goals exact ⟨_, rfl, B2.out, rfl⟩
  have hpos : 0 < l.length := List.length_pos_iff.2 h0
  have hd0 : ((s.size : Int) == 0) = false := beq_eq_false_iff_ne.2 (by omega)
  have hse : ¬ s = ByteArray.empty := by rintro rfl; simp at hsz; omega
  by_cases h9 : 9 < l.length
  · obtain ⟨b1, b2⟩ := bad (fun h => by have := h.2; omega)
    have hs9 : 9 < s.size := by omega
    have B2 := hid b2
    rw [b1]
    clear b1 b2 bad hby2 hsz h0 h9 hpos
    go_enter Tryz.func88, Tryz.ntmps88
    go_wp2_with fail
    all_goals go_ret2
    all_goals exact ⟨_, rfl, B2.out, rfl⟩
  have hs9 : ¬ 9 < s.size := by omega
  have hp0 : 0 < s.size := by omega
  have hb0 := hby2 0 hp0 hpos
  have hhead : l.head? = some l[0] := by cases l with | nil => exact absurd rfl h0 | cons a r => rfl
  by_cases hz0 : 1 < l.length ∧ l[0] = 48
  · obtain ⟨g1, g2⟩ := hz0
    obtain ⟨b1, b2⟩ := bad (fun h => h.1.2.1 g1 (by rw [hhead, g2]))
    have hs1 : 1 < s.size := by omega
    have hd1 : (((s[0]'hp0).toNat : Int) == 48) = true := by rw [hb0, g2]; rfl
    have B2 := hid b2
    rw [b1]
    clear b1 b2 bad hby2 hsz h0 h9 hpos hb0 hhead g1 g2
    go_enter Tryz.func88, Tryz.ntmps88
    go_wp2_with fail
    all_goals go_ret2
    all_goals exact ⟨_, rfl, B2.out, rfl⟩
  have hd1 : (decide (1 < (s.size : Int)) && (((s[0]'hp0).toNat : Int) == 48)) = false := by
    by_cases g1 : 1 < l.length
    · have : l[0] ≠ 48 := fun e => hz0 ⟨g1, e⟩
      have : l[0].toNat ≠ 48 := fun e => this (by have := u8_eq e; simpa using this)
      rw [hb0]; simp; omega
    · simp; omega
  have hgood : (∀ b ∈ l, isDig b) → intL l = some (valL l) := fun h => by
    unfold intL
    rw [if_pos ⟨⟨h0, fun g1 e => hz0 ⟨g1, by rw [hhead] at e; simpa using e⟩, h⟩, by omega⟩]
  have hval : ∀ k : Nat, k ≤ l.length → (∀ b ∈ l.take k, isDig b) → valL (l.take k) < 1000000000 := fun k hk h => valL_lt9 h (by simp; omega)
  have HB := hid hby2; have HG := hid hgood; have HV := hid hval; have HBAD := hid bad; have HSZ := hid hsz
  clear bad hby2 hgood hval hb0 hhead h0 hz0 hsz
  go_enter Tryz.func88, Tryz.ntmps88
  by_cases g1 : 1 < (s.size : Int)
  · have hd2 : (((s[0]'hp0).toNat : Int) == 48) = false := by simpa [g1] using hd1
    clear hd1
    go_wp2_with fail
    go_loopw [4, 5] (fun nv iv wr => ∃ k : Nat, k ≤ l.length ∧ iv = .int .i64 k ∧ nv = .int .i64 (valL (l.take k)) ∧ (∀ b ∈ l.take k, isDig b) ∧ w = wr) (fun _ iv _ => s.size - (intOf iv).toNat)
    case atStart => exact ⟨0, by omega, rfl, rfl, by simp, rfl⟩
    case round =>
      obtain ⟨k, hk, rfl, rfl, hdg, rfl⟩ := hrel
      have hv := HV.out k hk hdg
      by_cases hlt : k < s.size
      · have hltl : k < l.length := by have := HSZ.out; omega
        have hbk := HB.out k hlt hltl
        by_cases hdig : isDig l[k]
        · have hst := valL_take hltl
          have hdg2 : ∀ b ∈ l.take (k + 1), isDig b := fun b hb => by
            rw [List.take_succ_eq_append_getElem hltl] at hb
            rcases List.mem_append.1 hb with hb | hb
            · exact hdg b hb
            · simp only [List.mem_singleton] at hb; rw [hb]; exact hdig
          unfold isDig at hdig
          have e1 : ¬ (((s[k]'hlt).toNat : Int) < 48) := by omega
          have e2 : ¬ (57 < ((s[k]'hlt).toNat : Int)) := by omega
          have e3 : IntKind.u8.wrap (((s[k]'hlt).toNat : Int) - 48) = ((s[k]'hlt).toNat : Int) - 48 := by rw [IntKind.wrap_u8]; omega
          have hst2 : (valL (l.take (k + 1)) : Int) = 10 * valL (l.take k) + (((s[k]'hlt).toNat : Int) - 48) := by rw [hst]; omega
          have HST := hid hst2; have HD := hid hdg2
          clear hst hst2 hdg2 hdig hbk hdg
          go_wp2_with fail
          exact ⟨⟨k + 1, by omega, by go_num, by rw [HST.out], HD.out, by trivial⟩, by simp [intOf]; omega⟩
        · obtain ⟨b1, b2⟩ := HBAD.out (fun h => hdig (h.1.2.2 _ (List.getElem_mem hltl)))
          have hnd : ((s[k]'hlt).toNat : Int) < 48 ∨ ¬ ((s[k]'hlt).toNat : Int) < 48 ∧ 57 < ((s[k]'hlt).toNat : Int) := by unfold isDig at hdig; omega
          have B1 := hid b1; have B2 := hid b2
          clear b1 b2 hdig hbk hdg
          rcases hnd with e1 | ⟨e1, e2⟩
          · go_wp2_with fail
            go_ret2
            exact ⟨_, by rw [B1.out]; rfl, B2.out, by trivial⟩
          · go_wp2_with fail
            go_ret2
            exact ⟨_, by rw [B1.out]; rfl, B2.out, by trivial⟩
      · have hkl : k = l.length := by have := HSZ.out; omega
        subst hkl
        rw [List.take_length] at hdg
        have hg := HG.out hdg
        have HGG := hid hg
        have et : l.take l.length = l := List.take_length
        rw [et]
        clear hg hdg et
        go_wp2_with fail
        go_ret2
        exact ⟨_, by rw [HGG.out]; rfl, (fun m hm => by rw [HGG.out] at hm; cases hm; rfl), by trivial⟩
  · clear hd1
    go_wp2_with fail
    go_loopw [4, 5] (fun nv iv wr => ∃ k : Nat, k ≤ l.length ∧ iv = .int .i64 k ∧ nv = .int .i64 (valL (l.take k)) ∧ (∀ b ∈ l.take k, isDig b) ∧ w = wr) (fun _ iv _ => s.size - (intOf iv).toNat)
    case atStart => exact ⟨0, by omega, rfl, rfl, by simp, rfl⟩
    case round =>
      obtain ⟨k, hk, rfl, rfl, hdg, rfl⟩ := hrel
      have hv := HV.out k hk hdg
      by_cases hlt : k < s.size
      · have hltl : k < l.length := by have := HSZ.out; omega
        have hbk := HB.out k hlt hltl
        by_cases hdig : isDig l[k]
        · have hst := valL_take hltl
          have hdg2 : ∀ b ∈ l.take (k + 1), isDig b := fun b hb => by
            rw [List.take_succ_eq_append_getElem hltl] at hb
            rcases List.mem_append.1 hb with hb | hb
            · exact hdg b hb
            · simp only [List.mem_singleton] at hb; rw [hb]; exact hdig
          unfold isDig at hdig
          have e1 : ¬ (((s[k]'hlt).toNat : Int) < 48) := by omega
          have e2 : ¬ (57 < ((s[k]'hlt).toNat : Int)) := by omega
          have e3 : IntKind.u8.wrap (((s[k]'hlt).toNat : Int) - 48) = ((s[k]'hlt).toNat : Int) - 48 := by rw [IntKind.wrap_u8]; omega
          have hst2 : (valL (l.take (k + 1)) : Int) = 10 * valL (l.take k) + (((s[k]'hlt).toNat : Int) - 48) := by rw [hst]; omega
          have HST := hid hst2; have HD := hid hdg2
          clear hst hst2 hdg2 hdig hbk hdg
          go_wp2_with fail
          exact ⟨⟨k + 1, by omega, by go_num, by rw [HST.out], HD.out, by trivial⟩, by simp [intOf]; omega⟩
        · obtain ⟨b1, b2⟩ := HBAD.out (fun h => hdig (h.1.2.2 _ (List.getElem_mem hltl)))
          have hnd : ((s[k]'hlt).toNat : Int) < 48 ∨ ¬ ((s[k]'hlt).toNat : Int) < 48 ∧ 57 < ((s[k]'hlt).toNat : Int) := by unfold isDig at hdig; omega
          have B1 := hid b1; have B2 := hid b2
          clear b1 b2 hdig hbk hdg
          rcases hnd with e1 | ⟨e1, e2⟩
          · go_wp2_with fail
            go_ret2
            exact ⟨_, by rw [B1.out]; rfl, B2.out, by trivial⟩
          · go_wp2_with fail
            go_ret2
            exact ⟨_, by rw [B1.out]; rfl, B2.out, by trivial⟩
      · have hkl : k = l.length := by have := HSZ.out; omega
        subst hkl
        rw [List.take_length] at hdg
        have hg := HG.out hdg
        have HGG := hid hg
        have et : l.take l.length = l := List.take_length
        rw [et]
        clear hg hdg et
        go_wp2_with fail
        go_ret2
        exact ⟨_, by rw [HGG.out]; rfl, (fun m hm => by rw [HGG.out] at hm; cases hm; rfl), by trivial⟩
end Go.Proofs.YtmomeggnegcheaaGreatDoor

/- Contracts of the reference: ParseMoves, decimal, PrintMoves. Conditions: sizes as stated. -/
namespace Go.Proofs.YtmomeggnegcheaaGreatDoor
open Go.RowKit
set_option maxHeartbeats 4000000
set_option maxRecDepth 100000

theorem wordM_two {W : List UInt8} {a b : List UInt8} (h : spl 45 W = [a, b]) : wordM W = both (intL a) (intL b) := by unfold wordM; rw [h]
theorem wordM_len {W : List UInt8} (h : (spl 45 W).length ≠ 2) : wordM W = none := by
  unfold wordM
  match hs : spl 45 W, h with
  | [], _ => rfl
  | [_], _ => rfl
  | [_, _], h => simp at h
  | _ :: _ :: _ :: _, _ => rfl
theorem two_ofL {α : Type} {l : List α} (h : l.length = 2) : ∃ a b, l = [a, b] := by
  match l, h with
  | [a, b], _ => exact ⟨a, b, rfl⟩

theorem rParseMoves_any (S : List UInt8) (w : World) (hz : S.length ≤ 1048576) :
    Calls Tryz.prog 33 #[.string (bT S)] w fun r w' => RetT w (parseT S) r w' := by
  have hsz := bT_size S
  by_cases h1 : 4096 < S.length
  · have hR : parseT S = ([], 0, 26) := by rw [parseT, if_pos h1]
    have HR := hid hR; clear hR
    obtain ⟨s, hs⟩ : ∃ s, s = bT S := ⟨_, rfl⟩
    rw [← hs] at hsz ⊢
    have hbig : 4096 < s.size := by omega
    clear hsz hs
    go_enter Tryz.func33, Tryz.ntmps33
    go_wp2_with fail
    go_ret3
    exact RetT.none HR.out rfl (Below.refl _ _)
  by_cases h2 : S = []
  · have hR : parseT S = ([], 0, 0) := by rw [parseT, if_neg h1, if_pos h2]
    have HR := hid hR; clear hR
    have e : bT S = ByteArray.empty := by rw [h2]; rfl
    rw [e]
    clear hsz h2 e
    go_enter Tryz.func33, Tryz.ntmps33
    go_wp2_with fail
    go_ret3
    exact RetT.none HR.out rfl (Below.refl _ _)
  have hR : parseT S = movesGo (spl 32 S) 0 [] := by rw [parseT, if_neg h1, if_neg h2]
  have hLn := splR_len 32 S []
  have hLs := spl_sum 32 S []
  have CS := fun w => rSplit_any 32 S w hz
  obtain ⟨L, hL⟩ : ∃ L, L = spl 32 S := ⟨_, rfl⟩
  rw [show splR 32 [] S = L from hL.symm] at hLn hLs
  rw [← hL] at CS hR
  obtain ⟨s, hs⟩ : ∃ s, s = bT S := ⟨_, rfl⟩
  have hne : (s.toList == []) = false := by
    rw [show ([] : List UInt8) = ByteArray.empty.toList from (by rw [ByteArray.toList_eq]; rfl), eqS]
    refine decide_eq_false (fun e => h2 ?_)
    rw [hs] at e
    have := congrArg (fun s : ByteArray => s.data.toList) e
    simpa [bT] using this
  have hne2 : ¬ s = ByteArray.empty := by
    intro e; rw [hs] at e
    have := congrArg (fun s : ByteArray => s.data.toList) e
    exact h2 (by simpa [bT] using this)
  rw [← hs] at CS hsz ⊢
  have hsz2 : s.size ≤ 4096 := by omega
  have HCS := hid CS; have HR := hid hR; have HLS := hid hLs
  have hml : (L.map bT).length = L.length := by simp
  have HML := hid hml
  have hLn2 : L.length ≤ 4097 := by omega
  have e32 : ((32 : UInt8).toNat : Int) = 32 := rfl
  have e45 : ((45 : UInt8).toNat : Int) = 45 := rfl
  clear CS hR hLs hLn hL hs h2 hsz h1 hml
  go_enter Tryz.func33, Tryz.ntmps33
  go_wp2_with fail
  have hcs := HCS.out w
  rw [e32] at hcs
  refine hcs.mono ?_
  clear hcs
  rintro e w1 ⟨vw, rfl, ho1, b1⟩
  obtain ⟨aw, cw, rfl, hW, _, _⟩ := ho1.reps
  rw [HML.out]
  clear ho1
  have E45 := hid e45; clear e45 e32
  go_wp2_with fail
  go_loopw [5, 7, 8, 9, 10, 11, 12] (fun ov i _ _ _ _ _ wr => ∃ (k : Nat) (acc : List (Int × Int)), k ≤ L.length ∧ i = .int .i64 k ∧ acc.length = k ∧ movesGo (L.drop k) k acc = movesGo L 0 [] ∧ SL w1.heap.size w1 wr [pOwn cPair 2 52 ov acc]) (fun _ i _ _ _ _ _ _ => L.length - (intOf i).toNat)
  case atStart => exact ⟨0, [], by omega, rfl, rfl, rfl, (SL.nil w1).nilS cPairS⟩
  case round =>
    obtain ⟨k, acc, hk, rfl, hal, hgo, hO⟩ := hrel
    have hWr := hW.below hO.b
    have HAL := hid hal; clear hal
    by_cases hlt : k < L.length
    · have hat := atD_mapT L k hlt
      have hdr : L.drop k = atD [] L k :: L.drop (k + 1) := by rw [List.drop_eq_getElem_cons hlt]; simp [atD, hlt]
      have hmem : atD [] L k ∈ L := by simp [atD, hlt]
      have hwl := HLS.out _ hmem
      simp only [List.length_nil, Nat.zero_add] at hwl
      obtain ⟨W, hW'⟩ : ∃ W, W = atD [] L k := ⟨_, rfl⟩
      rw [← hW'] at hat hdr hwl
      rw [hdr] at hgo
      have HAT := hid hat
      have CC := fun w => rSplit_any 45 W w (by omega)
      rw [E45.out] at CC
      have hPs := spl_sum 45 W []
      have hPl := splR_len 45 W []
      rw [show splR 45 [] W = spl 45 W from rfl] at hPs hPl
      clear hat hdr hmem hW'
      by_cases hP : (spl 45 W).length = 2
      · obtain ⟨p, r, hpr⟩ := two_ofL hP
        have hwm := wordM_two hpr
        rw [hpr] at CC hPs
        have hp1 := hPs p (by simp)
        have hr1 := hPs r (by simp)
        simp only [List.length_nil, Nat.zero_add] at hp1 hr1
        have CI := fun w => rinteger_any p w (by omega)
        have CJ := fun w => rinteger_any r w (by omega)
        obtain ⟨sw, hsw⟩ : ∃ s, s = bT W := ⟨_, rfl⟩
        rw [← hsw] at HAT CC
        obtain ⟨sp, hsp⟩ : ∃ s, s = bT p := ⟨_, rfl⟩
        obtain ⟨sr, hsr⟩ : ∃ s, s = bT r := ⟨_, rfl⟩
        rw [List.map_cons, List.map_cons, List.map_nil, ← hsp, ← hsr] at CC
        rw [← hsp] at CI
        rw [← hsr] at CJ
        have HC := hid CC
        clear CC hsw hsp hsr hwl hP hpr hPs hPl hp1 hr1
        cases hi : intL p with
        | none =>
          rw [movesGo_none _ _ _ (hwm.trans (both_no1 hi))] at hgo
          rw [hi] at CI
          have HG := hid hgo; have HI := hid CI; have HJ := hid CJ
          clear hgo CI CJ hwm hi
          cases hj : (intL r).isSome
          all_goals
            have CJ := HJ.out
            rw [hj] at CJ
            have HJ2 := hid CJ
            clear CJ hj HJ
            go_wp2_with ((with_reducible refine wpList_idxN _ ByteArray.empty E_strs F_str cStr1 (by with_unfolding_all rfl) (by with_unfolding_all rfl) (hWr) (HML.out) (by first | omega | (simp; done)) (by first | omega | (simp; done)) (fun _ => by with_unfolding_all rfl) (fun _ => ?_)); rw [HAT.out])
            refine (HC.out _).mono ?_
            rintro e w2 ⟨v2, rfl, ho2, b2⟩
            obtain ⟨a2, c2, rfl, h2, _, _⟩ := ho2.reps
            go_wp2_with (with_reducible refine wpList_idx _ ByteArray.empty E_strs F_str cStr1 (by with_unfolding_all rfl) (by with_unfolding_all rfl) (h2) (by first | omega | (simp; done)) (by first | omega | (simp; done)) (fun _ => by with_unfolding_all rfl) (fun _ => ?_))
            refine (HI.out _).mono ?_
            rintro e w3 ⟨n3, rfl, _, rfl⟩
            go_wp2_with (with_reducible refine wpList_idx _ ByteArray.empty E_strs F_str cStr1 (by with_unfolding_all rfl) (by with_unfolding_all rfl) (h2) (by first | omega | (simp; done)) (by first | omega | (simp; done)) (fun _ => by with_unfolding_all rfl) (fun _ => ?_))
            refine (HJ2.out _).mono ?_
            rintro e w4 ⟨n4, rfl, _, rfl⟩
            go_wp2_with fail
            go_ret3
            exact RetT.none (by rw [HR.out]; exact HG.out.symm) rfl (bnext b1 (bnext hO.b b2))
        | some x =>
          rw [hi] at CI
          cases hj : intL r with
          | none =>
            rw [movesGo_none _ _ _ (hwm.trans (both_no2 hj))] at hgo
            rw [hj] at CJ
            have HG := hid hgo; have HI := hid CI; have HJ := hid CJ
            clear hgo CI CJ hwm hi hj
            go_wp2_with ((with_reducible refine wpList_idxN _ ByteArray.empty E_strs F_str cStr1 (by with_unfolding_all rfl) (by with_unfolding_all rfl) (hWr) (HML.out) (by first | omega | (simp; done)) (by first | omega | (simp; done)) (fun _ => by with_unfolding_all rfl) (fun _ => ?_)); rw [HAT.out])
            refine (HC.out _).mono ?_
            rintro e w2 ⟨v2, rfl, ho2, b2⟩
            obtain ⟨a2, c2, rfl, h2, _, _⟩ := ho2.reps
            go_wp2_with (with_reducible refine wpList_idx _ ByteArray.empty E_strs F_str cStr1 (by with_unfolding_all rfl) (by with_unfolding_all rfl) (h2) (by first | omega | (simp; done)) (by first | omega | (simp; done)) (fun _ => by with_unfolding_all rfl) (fun _ => ?_))
            refine (HI.out _).mono ?_
            rintro e w3 ⟨n3, rfl, _, rfl⟩
            go_wp2_with (with_reducible refine wpList_idx _ ByteArray.empty E_strs F_str cStr1 (by with_unfolding_all rfl) (by with_unfolding_all rfl) (h2) (by first | omega | (simp; done)) (by first | omega | (simp; done)) (fun _ => by with_unfolding_all rfl) (fun _ => ?_))
            refine (HJ.out _).mono ?_
            rintro e w4 ⟨n4, rfl, _, rfl⟩
            go_wp2_with fail
            go_ret3
            exact RetT.none (by rw [HR.out]; exact HG.out.symm) rfl (bnext b1 (bnext hO.b b2))
          | some y =>
            rw [movesGo_some _ _ _ (hwm.trans (both_some hi hj))] at hgo
            rw [hj] at CJ
            have HG := hid hgo; have HI := hid CI; have HJ := hid CJ
            have hac : acc.length ≤ 100000 := by rw [HAL.out]; omega
            clear hgo CI CJ hwm hi hj
            go_wp2_with ((with_reducible refine wpList_idxN _ ByteArray.empty E_strs F_str cStr1 (by with_unfolding_all rfl) (by with_unfolding_all rfl) (hWr) (HML.out) (by first | omega | (simp; done)) (by first | omega | (simp; done)) (fun _ => by with_unfolding_all rfl) (fun _ => ?_)); rw [HAT.out])
            refine (HC.out _).mono ?_
            rintro e w2 ⟨v2, rfl, ho2, b2⟩
            obtain ⟨a2, c2, rfl, h2, _, _⟩ := ho2.reps
            go_wp2_with (with_reducible refine wpList_idx _ ByteArray.empty E_strs F_str cStr1 (by with_unfolding_all rfl) (by with_unfolding_all rfl) (h2) (by first | omega | (simp; done)) (by first | omega | (simp; done)) (fun _ => by with_unfolding_all rfl) (fun _ => ?_))
            refine (HI.out _).mono ?_
            rintro e w3 ⟨n3, rfl, hn3, rfl⟩
            have e3 := hn3 x rfl
            subst e3
            go_wp2_with (with_reducible refine wpList_idx _ ByteArray.empty E_strs F_str cStr1 (by with_unfolding_all rfl) (by with_unfolding_all rfl) (h2) (by first | omega | (simp; done)) (by first | omega | (simp; done)) (fun _ => by with_unfolding_all rfl) (fun _ => ?_))
            refine (HJ.out _).mono ?_
            rintro e w4 ⟨n4, rfl, hn4, rfl⟩
            have e4 := hn4 y rfl
            subst e4
            have hO4 := hO.mono b2
            clear hn3 hn4
            go_wp2_with ((with_reducible refine wpList_pushL (y := ((x : Int), (y : Int))) 0 E_rmoves (by with_unfolding_all rfl) (by with_unfolding_all rfl) (hO4) (by with_unfolding_all rfl) cPairO ⟨rfl, rfl⟩ (by first | with_unfolding_all rfl | simp) (by with_unfolding_all rfl) (by first | omega | (simp; omega)) (by first | omega | (simp; omega)) ?_); intro v5 w5 hO5)
            exact ⟨⟨k + 1, _, by omega, by go_num, by rw [List.length_append, HAL.out]; rfl, HG.out, hO5⟩, by simp [intOf]; omega⟩
      · rw [movesGo_none _ _ _ (wordM_len hP)] at hgo
        obtain ⟨P, hPe⟩ : ∃ P, P = spl 45 W := ⟨_, rfl⟩
        rw [← hPe] at CC hP
        obtain ⟨sw, hsw⟩ : ∃ s, s = bT W := ⟨_, rfl⟩
        rw [← hsw] at HAT CC
        have hpm : (P.map bT).length = P.length := by simp
        have hd : ((P.length : Int) != 2) = true := by simp; omega
        have HC := hid CC; have HG := hid hgo; have HPM := hid hpm
        clear CC hgo hPs hPl hPe hsw hwl hP hpm
        go_wp2_with ((with_reducible refine wpList_idxN _ ByteArray.empty E_strs F_str cStr1 (by with_unfolding_all rfl) (by with_unfolding_all rfl) (hWr) (HML.out) (by first | omega | (simp; done)) (by first | omega | (simp; done)) (fun _ => by with_unfolding_all rfl) (fun _ => ?_)); rw [HAT.out])
        refine (HC.out _).mono ?_
        rintro e w2 ⟨v2, rfl, ho2, b2⟩
        obtain ⟨a2, c2, rfl, h2, _, _⟩ := ho2.reps
        rw [HPM.out]
        clear h2 ho2
        go_wp2_with fail
        go_ret3
        exact RetT.none (by rw [HR.out]; exact HG.out.symm) rfl (bnext b1 (bnext hO.b b2))
    · have hkl : k = L.length := by omega
      subst hkl
      rw [List.drop_length, movesGo] at hgo
      obtain ⟨ao, capo, rfl, hro⟩ := hO.slice 0 rfl
      have hb := hO.b
      clear HAL
      by_cases hm : 1000 < acc.length
      · rw [if_pos hm] at hgo
        have HG := hid hgo
        clear hgo
        go_wp2_with fail
        go_ret3
        exact RetT.none (by rw [HR.out]; exact HG.out.symm) rfl (bnext b1 hb)
      · rw [if_neg hm] at hgo
        have HG := hid hgo
        clear hgo
        go_wp2_with fail
        go_ret3
        rw [HR.out, ← HG.out]
        exact ⟨ao, capo, rfl, hro, bnext b1 hb⟩

theorem rdecimal7_any (x : Nat) (w : World) (hx : x < 1000000000) :
    Calls Tryz.prog 86 #[.int .i64 x] w fun r w' => r = .returned (.string (itoaB x)) ∧ Below w.heap.size w w' := by
  have H := hid (fun w => rFromInt_any x w hx)
  go_enter Tryz.func86, Tryz.ntmps86
  go_wp2_with fail
  refine (H.out _).mono ?_
  rintro e w1 ⟨rfl, b1⟩
  go_wp2_with fail
  go_ret
  exact ⟨rfl, b1⟩

section
variable {P : Program} {ops : Array Oper} {rest : List Oper} {a : Act} {Qa : Act → Prop} {α : Type} {c : α → Value} {sz bytes : Nat} {t e t2 e2 : TypeId} {z : Value} {ad : Option Addr} {cap : Nat} {l : List α} {k : Int} {w : World}
  {d1 d2 d3 : Tmp} {ty1 ty2 ty3 : TypeId} {p1 p2 p3 : String} {s x : Operand} {af1 af2 af3 : Array Edge} {j : Nat}
/-- one field of an element, read in a quiet region with calls. -/
theorem wpB_fld (d : α) (v : Value) (E : ETy P t e z sz bytes) (hF : Flat P e2)
   (hf : ∀ (b o : Nat) (w' : World), (Instr.fieldAt t2 (.pointer (some ⟨b, o, none⟩)) j).run P w' = .ok (.pointer (some ⟨b, o + j, none⟩)) w')
   (hs : a.eval s = .slice ad l.length cap) (hx : a.eval x = .int .i64 k) (hR : Reps c sz w ad cap l) (h0 : 0 ≤ k) (hlt : k < l.length)
   (hv : (c (atD d l k)).cells.toList[j]? = some v) (hd : ∀ p, (a.put (some d1) p).eval (.tmp d1) = p) (hd2 : ∀ p q, ((a.put (some d1) p).put (some d2) q).eval (.tmp d2) = q)
   (hK : ∀ p q, wpQuiet P ops (Below w.heap.size w) Qa rest (((a.put (some d1) p).put (some d2) q).put (some d3) v)) :
   wpQuiet P ops (Below w.heap.size w) Qa (⟨some d1, .indexAddr t s x, ty1, p1, af1, none⟩ :: ⟨some d2, .fieldAddr t2 (.tmp d1) j, ty2, p2, af2, none⟩ :: ⟨some d3, .load e2 (.tmp d2), ty3, p3, af3, none⟩ :: rest) a := by
  have hkl : k.toNat < l.length := by omega
  obtain ⟨b, o, rfl, hcs⟩ := hR.cells E.pos d k.toNat hkl
  have hcell := hcs j v hv
  have hadd : (⟨b, o, none⟩ : Addr).add (k.toNat * sz) = ⟨b, o + k.toNat * sz, none⟩ := Addr.add_z ..
  refine wpQ_in (.pointer (some ((⟨b, o, none⟩ : Addr).add (k.toNat * sz)))) rfl (fun w' hw' => ?_) (wpQ_in (.pointer (some ⟨b, o + k.toNat * sz + j, none⟩)) rfl (fun w' hw' => ?_) (wpQ_in v rfl (fun w' hw' => ?_) (hK _ _)))
  · have h1 := run_indexAt_sl (P := P) (a := ⟨b, o, none⟩) (cap := cap) w' E h0 hlt
    simp [execOp, hs, hx, h1, Result.andThen]
  · have h1 := hf b (o + k.toNat * sz) w'
    rw [← hadd] at h1
    simp only [execOp, hd]
    rw [hadd] at h1 ⊢
    simp [h1, Result.andThen]
  · have h2 := run_loadAt_cell (P := P) w' (a := (⟨b, o + k.toNat * sz + j, none⟩ : Addr)) (v := v) hF ((hw'.cell (World.block_lt_of_cell? w _ hcell)).trans hcell)
    simp [execOp, hd2, h2, Result.andThen]
end

theorem badM_btw (m : Int × Int) : badM m ↔ btw m.1 0 999999999 = false ∨ btw m.2 0 999999999 = false := by
  unfold badM btw
  simp only [Bool.and_eq_false_iff, decide_eq_false_iff_not]
  omega
theorem join_snoc (x : List UInt8) : ∀ (ls : List (List UInt8)), ls ≠ [] → Lib.join (ls ++ [x]) [32] = Lib.join ls [32] ++ 32 :: x
  | [], h => absurd rfl h
  | y :: r, _ => by
    rw [List.cons_append, Lib.join_cons, Lib.join_cons]
    unfold Lib.joinTail
    simp
theorem textsJ_bT (l : List (Int × Int)) : textsJ l = bT (Lib.join ((l.map textM).map (·.data.toList)) [32]) := rfl
theorem textsJ_step (l : List (Int × Int)) (k : Nat) (h : k < l.length) : textsJ (l.take (k + 1)) = (if k = 0 then ByteArray.empty else textsJ (l.take k) ++ ⟨#[32]⟩) ++ textM (atD (0, 0) l k) := by
  have e : textM (atD (0, 0) l k) = bT (textM (atD (0, 0) l k)).data.toList := rfl
  rw [textsJ_bT, texts_step l k h, List.map_append]
  by_cases h0 : k = 0
  · subst h0
    rw [if_pos rfl, e]
    simp [Lib.join_cons, Lib.joinTail]
    rfl
  · rw [if_neg h0, e, textsJ_bT, show (⟨#[32]⟩ : ByteArray) = bT [32] from rfl, bT_app, bT_app]
    simp only [List.map_cons, List.map_nil]
    rw [join_snoc _ _ (by
      intro e2
      have := congrArg List.length e2
      simp at this
      rcases this with h1 | h1
      · omega
      · subst h1; simp at h)]
    simp
    rfl
theorem textsJ_size (l : List (Int × Int)) (h : ∀ m ∈ l, ¬ badM m) : (textsJ l).size ≤ l.length * 42 := by
  have := join_len ((l.map textM).map (·.data.toList)) 41 (fun x hx => by
    obtain ⟨y, hy, rfl⟩ := List.mem_map.1 hx
    obtain ⟨m, hm, rfl⟩ := List.mem_map.1 hy
    have := textM_size m (h m hm)
    simpa using this)
  rw [textsJ_bT, bT_size]
  simpa using this

theorem rPrintMoves_any (a : Option Addr) (cap : Nat) (l : List (Int × Int)) (w : World) (hS : Pairs w a cap l) (hn : manyE l.length = 0) :
    Calls Tryz.prog 32 #[.slice a l.length cap] w fun r w' => r = .returned (.tuple #[.string (printB l), .int .i64 (printE l)]) ∧ Below w.heap.size w w' := by
  have hcap := hS.le
  have hm := hS.max
  have hl2 : l.length ≤ 1000 := by unfold manyE at hn; split at hn <;> omega
  have hE : printE l = if ∃ m ∈ l, badM m then 3 else if 4096 < (textsJ l).size then 26 else 0 := by simp [printE, hn]
  have HE := hid hE
  clear hE hn
  go_enter Tryz.func32, Tryz.ntmps32
  go_wp2_with fail
  go_loopw [5] (fun i wr => ∃ k : Nat, k ≤ l.length ∧ i = .int .i64 k ∧ ((∃ m ∈ l.drop k, badM m) ↔ ∃ m ∈ l, badM m) ∧ Below w.heap.size w wr) (fun i _ => l.length - (intOf i).toNat)
  case atStart => exact ⟨0, by omega, rfl, by simp, Below.refl _ _⟩
  case round =>
    obtain ⟨k, hk, rfl, hbad, hbr⟩ := hrel
    have hSr := hS.below hbr
    have HB := hid hbad; clear hbad
    by_cases hlt : k < l.length
    · obtain ⟨F, hF⟩ : ∃ F, F = (atD (0, 0) l k).1 := ⟨_, rfl⟩
      obtain ⟨G, hG⟩ : ∃ G, G = (atD (0, 0) l k).2 := ⟨_, rfl⟩
      have hbb := badM_btw (atD (0, 0) l k)
      rw [← hF, ← hG] at hbb
      have hv0 : (cPair (atD (0, 0) l k)).cells.toList[0]? = some (.int .i64 F) := by rw [hF]; rfl
      have hv1 : (cPair (atD (0, 0) l k)).cells.toList[1]? = some (.int .i64 G) := by rw [hG]; rfl
      have hfs := find_step l k hlt
      clear hF hG
      by_cases hb : badM (atD (0, 0) l k)
      · have e : printE l = 3 := by rw [HE.out, if_pos (HB.out.1 (hfs.2 (.inl hb)))]
        have e2 : printB l = ⟨#[]⟩ := by rw [printB, e]; rfl
        have E := hid e; have E2 := hid e2
        have hb2 := hbb.1 hb
        clear e e2 hbb hfs hb
        cases hb1 : btw F 0 999999999
        · have HB1 := hid hb1; clear hb1 hb2
          go_wp2_with (first | (with_reducible refine wpList_fld (0, 0) (.int .i64 F) E_rmoves F_int fld_rmove0 (by with_unfolding_all rfl) (by with_unfolding_all rfl) hSr (by omega) (by omega) hv0 (fun _ => by with_unfolding_all rfl) (fun _ _ => by with_unfolding_all rfl) (fun _ _ => ?_); (try simp only [Act.put, List.setIfInBounds_toArray, List.set_cons_zero, List.set_cons_succ])) | (go_at_call 60; refine (rbetween_any _ _ _ _).mono ?_; rw [HB1.out]; rintro e w' ⟨rfl, rfl⟩))
          all_goals go_ret2
          all_goals exact ⟨by rw [E.out, E2.out]; rfl, hbr⟩
        · have hb3 : btw G 0 999999999 = false := by rcases hb2 with h | h; · rw [hb1] at h; cases h
                                                     · exact h
          have HB1 := hid hb1; have HB3 := hid hb3; clear hb1 hb2 hb3
          go_wp2_with (first | (with_reducible refine wpList_fld (0, 0) (.int .i64 F) E_rmoves F_int fld_rmove0 (by with_unfolding_all rfl) (by with_unfolding_all rfl) hSr (by omega) (by omega) hv0 (fun _ => by with_unfolding_all rfl) (fun _ _ => by with_unfolding_all rfl) (fun _ _ => ?_); (try simp only [Act.put, List.setIfInBounds_toArray, List.set_cons_zero, List.set_cons_succ])) | (with_reducible refine wpList_fldG (0, 0) (.int .i64 G) E_rmoves F_int fld_rmove1 (by with_unfolding_all rfl) (by with_unfolding_all rfl) hSr rfl (by omega) (by omega) hv1 (fun _ => by with_unfolding_all rfl) (fun _ _ => by with_unfolding_all rfl) (by with_unfolding_all rfl) (fun _ => by with_unfolding_all rfl) (fun _ _ => by with_unfolding_all rfl) (fun _ _ => ?_)) | (go_at_call 60; refine (rbetween_any _ _ _ _).mono ?_; (first | rw [HB1.out] | rw [HB3.out]); rintro e w' ⟨rfl, rfl⟩))
          all_goals go_ret2
          all_goals exact ⟨by rw [E.out, E2.out]; rfl, hbr⟩
      · have hb1 : btw F 0 999999999 = true := by cases h : btw F 0 999999999 with | true => rfl | false => exact absurd (hbb.2 (.inl h)) hb
        have hb3 : btw G 0 999999999 = true := by cases h : btw G 0 999999999 with | true => rfl | false => exact absurd (hbb.2 (.inr h)) hb
        have hn2 : (∃ m ∈ l.drop (k + 1), badM m) ↔ ∃ m ∈ l, badM m := by rw [← HB.out, hfs]; simp [hb]
        have HB1 := hid hb1; have HB3 := hid hb3; have HN2 := hid hn2
        clear hb1 hb3 hn2 hbb hfs hb
        go_wp2_with (first | (with_reducible refine wpList_fld (0, 0) (.int .i64 F) E_rmoves F_int fld_rmove0 (by with_unfolding_all rfl) (by with_unfolding_all rfl) hSr (by omega) (by omega) hv0 (fun _ => by with_unfolding_all rfl) (fun _ _ => by with_unfolding_all rfl) (fun _ _ => ?_); (try simp only [Act.put, List.setIfInBounds_toArray, List.set_cons_zero, List.set_cons_succ])) | (with_reducible refine wpList_fldG (0, 0) (.int .i64 G) E_rmoves F_int fld_rmove1 (by with_unfolding_all rfl) (by with_unfolding_all rfl) hSr rfl (by omega) (by omega) hv1 (fun _ => by with_unfolding_all rfl) (fun _ _ => by with_unfolding_all rfl) (by with_unfolding_all rfl) (fun _ => by with_unfolding_all rfl) (fun _ _ => by with_unfolding_all rfl) (fun _ _ => ?_)) | (go_at_call 60; refine (rbetween_any _ _ _ _).mono ?_; (first | rw [HB1.out] | rw [HB3.out]); rintro e w' ⟨rfl, rfl⟩))
        exact ⟨⟨k + 1, by omega, by go_num, HN2.out, hbr⟩, by simp [intOf]; omega⟩
    · have hkl : k = l.length := by omega
      subst hkl
      have hno : ¬ ∃ m ∈ l, badM m := by rw [← HB.out]; simp
      have hall : ∀ m ∈ l, ¬ badM m := fun m hm hb => hno ⟨m, hm, hb⟩
      have hE2 : printE l = if 4096 < (textsJ l).size then 26 else 0 := by rw [HE.out, if_neg hno]
      have HALL := hid hall; have HE2 := hid hE2
      clear hno hall hE2 HE HB hSr
      go_wp2_with fail
      go_loopw [4, 6] (fun sv i wq => ∃ k : Nat, k ≤ l.length ∧ i = .int .i64 k ∧ sv = .string (textsJ (l.take k)) ∧ Below w.heap.size w wq) (fun _ i _ => l.length - (intOf i).toNat)
      case atStart => exact ⟨0, by omega, rfl, rfl, hbr⟩
      case round =>
        clear hbr
        obtain ⟨k, hk, rfl, rfl, hbr⟩ := hrel
        have hSr := hS.below hbr
        by_cases hlt : k < l.length
        · obtain ⟨F, hF⟩ : ∃ F, F = (atD (0, 0) l k).1 := ⟨_, rfl⟩
          obtain ⟨G, hG⟩ : ∃ G, G = (atD (0, 0) l k).2 := ⟨_, rfl⟩
          have hnb := HALL.out (atD (0, 0) l k) (by simp [atD, hlt])
          have hv0 : (cPair (atD (0, 0) l k)).cells.toList[0]? = some (.int .i64 F) := by rw [hF]; rfl
          have hv1 : (cPair (atD (0, 0) l k)).cells.toList[1]? = some (.int .i64 G) := by rw [hG]; rfl
          have hst := textsJ_step l k hlt
          have etm : textM (atD (0, 0) l k) = itoaB F ++ ⟨#[45]⟩ ++ itoaB G := by rw [hF, hG]; rfl
          rw [etm] at hst
          unfold badM at hnb
          rw [← hF, ← hG] at hnb
          obtain ⟨f, rfl⟩ : ∃ f : Nat, F = f := ⟨F.toNat, by omega⟩
          obtain ⟨g, rfl⟩ : ∃ g : Nat, G = g := ⟨G.toNat, by omega⟩
          have CF := fun w => rdecimal7_any f w (by omega)
          have CG := fun w => rdecimal7_any g w (by omega)
          have sF := (itoaB_len (p := f) (by omega)).1
          have sG := (itoaB_len (p := g) (by omega)).1
          have sJ := textsJ_size (l.take k) (fun m hm => HALL.out m (List.mem_of_mem_take hm))
          have hlk : (l.take k).length ≤ 1000 := by simp; omega
          obtain ⟨tf, htf⟩ : ∃ s, s = itoaB (f : Int) := ⟨_, rfl⟩
          obtain ⟨tg, htg⟩ : ∃ s, s = itoaB (g : Int) := ⟨_, rfl⟩
          obtain ⟨tj, htj⟩ : ∃ s, s = textsJ (l.take k) := ⟨_, rfl⟩
          rw [← htf] at CF sF hst
          rw [← htg] at CG sG hst
          rw [← htj] at sJ hst ⊢
          have sJ2 : tj.size ≤ 42000 := by omega
          have HCF := hid CF; have HCG := hid CG
          clear CF CG sJ hF hG etm htf htg hnb hlk
          by_cases h0 : k = 0
          · rw [if_pos h0] at hst
            have htj0 : tj = ByteArray.empty := by rw [htj, h0]; rfl
            have hst2 : textsJ (l.take (k + 1)) = tj ++ tf ++ ⟨#[45]⟩ ++ tg := by
              rw [hst, htj0]
              simp [ByteArray.append_assoc]
            have HST := hid hst2
            have hk0 : decide (0 < (k : Int)) = false := by simp [h0]
            have hk1 : ¬ 0 < (k : Int) := by omega
            have x1 : ¬ 9223372036854775807 < tj.size + tf.size := by omega
            have x2 : ¬ 9223372036854775807 < tj.size + tf.size + 1 := by omega
            have x3 : ¬ 9223372036854775807 < tj.size + tf.size + 1 + tg.size := by omega
            clear hst hst2 htj0 htj h0
            go_wp2_with fail
            refine wp_region_q (by kernel_rfl) (by kernel_rfl) ?_
            repeat (first | (with_reducible refine wpB_fld (0, 0) (.int .i64 f) E_rmoves F_int fld_rmove0 (by with_unfolding_all rfl) (by with_unfolding_all rfl) hSr (by omega) (by omega) hv0 (fun _ => by with_unfolding_all rfl) (fun _ _ => by with_unfolding_all rfl) (fun _ _ => ?_); (try simp only [Act.put, List.setIfInBounds_toArray, List.set_cons_zero, List.set_cons_succ])) | (with_reducible refine wpB_fld (0, 0) (.int .i64 g) E_rmoves F_int fld_rmove1 (by with_unfolding_all rfl) (by with_unfolding_all rfl) hSr (by omega) (by omega) hv1 (fun _ => by with_unfolding_all rfl) (fun _ _ => by with_unfolding_all rfl) (fun _ _ => ?_); (try simp only [Act.put, List.setIfInBounds_toArray, List.set_cons_zero, List.set_cons_succ])) | ((refine wpB_call (.string tf) (by with_unfolding_all rfl) (fun w' => ?_) (fun w' hw' => HCF.out w') ?_); (focus (go_simp; done)); (try simp only [Act.put, List.setIfInBounds_toArray, List.set_cons_zero, List.set_cons_succ])) | ((refine wpB_call (.string tg) (by with_unfolding_all rfl) (fun w' => ?_) (fun w' hw' => HCG.out w') ?_); (focus (go_simp; done)); (try simp only [Act.put, List.setIfInBounds_toArray, List.set_cons_zero, List.set_cons_succ])) |  ((with_reducible refine wpB_load (by first | exact F_int | exact F_u64s) (by with_unfolding_all rfl) (by with_unfolding_all rfl) (by assumption) (by with_unfolding_all rfl) ?_); (try simp only [Act.put, List.setIfInBounds_toArray, List.set_cons_zero, List.set_cons_succ])) | ((with_reducible refine wpB_loadS (n := 2) (us := #[_, _]) A_int (by kernel_rfl) (by with_unfolding_all rfl) (by with_unfolding_all rfl) (by assumption) (by with_unfolding_all rfl) (by with_unfolding_all rfl) ?_); (try simp only [Act.put, List.setIfInBounds_toArray, List.set_cons_zero, List.set_cons_succ])) | ((with_reducible refine wpB_loadS (n := 4) (us := #[_, _, _, _]) A_frac (by kernel_rfl) (by with_unfolding_all rfl) (by with_unfolding_all rfl) (by assumption) (by with_unfolding_all rfl) (by with_unfolding_all rfl) ?_); (try simp only [Act.put, List.setIfInBounds_toArray, List.set_cons_zero, List.set_cons_succ])) | ((refine wpQ_oneG ?_ (by with_unfolding_all rfl) (fun w' => ?_) ?_); rotate_left; (go_simp; rfl); (try simp only [Act.put, List.setIfInBounds_toArray, List.set_cons_zero, List.set_cons_succ])))
            refine wpQuiet_nil ?_
            intro w1 hb1
            go_wp2_with fail
            exact ⟨⟨k + 1, by omega, by go_num, by rw [HST.out], bnext hbr hb1⟩, by simp [intOf]; omega⟩
          · rw [if_neg h0] at hst
            have hst2 : textsJ (l.take (k + 1)) = tj ++ ⟨#[32]⟩ ++ tf ++ ⟨#[45]⟩ ++ tg := by
              rw [hst]
              simp [ByteArray.append_assoc]
            obtain ⟨tk, htk⟩ : ∃ s, s = tj ++ ⟨#[32]⟩ := ⟨_, rfl⟩
            rw [← htk] at hst2
            have stk : tk.size = tj.size + 1 := by rw [htk, ByteArray.size_append]; rfl
            have HST := hid hst2; have HTK := hid htk
            have hk1 : 0 < (k : Int) := by omega
            have x1 : ¬ 9223372036854775807 < tk.size + tf.size := by omega
            have x2 : ¬ 9223372036854775807 < tk.size + tf.size + 1 := by omega
            have x3 : ¬ 9223372036854775807 < tk.size + tf.size + 1 + tg.size := by omega
            clear hst hst2 htj h0 htk stk
            go_wp2_with fail
            rw [← HTK.out]
            refine wp_region_q (by kernel_rfl) (by kernel_rfl) ?_
            repeat (first | (with_reducible refine wpB_fld (0, 0) (.int .i64 f) E_rmoves F_int fld_rmove0 (by with_unfolding_all rfl) (by with_unfolding_all rfl) hSr (by omega) (by omega) hv0 (fun _ => by with_unfolding_all rfl) (fun _ _ => by with_unfolding_all rfl) (fun _ _ => ?_); (try simp only [Act.put, List.setIfInBounds_toArray, List.set_cons_zero, List.set_cons_succ])) | (with_reducible refine wpB_fld (0, 0) (.int .i64 g) E_rmoves F_int fld_rmove1 (by with_unfolding_all rfl) (by with_unfolding_all rfl) hSr (by omega) (by omega) hv1 (fun _ => by with_unfolding_all rfl) (fun _ _ => by with_unfolding_all rfl) (fun _ _ => ?_); (try simp only [Act.put, List.setIfInBounds_toArray, List.set_cons_zero, List.set_cons_succ])) | ((refine wpB_call (.string tf) (by with_unfolding_all rfl) (fun w' => ?_) (fun w' hw' => HCF.out w') ?_); (focus (go_simp; done)); (try simp only [Act.put, List.setIfInBounds_toArray, List.set_cons_zero, List.set_cons_succ])) | ((refine wpB_call (.string tg) (by with_unfolding_all rfl) (fun w' => ?_) (fun w' hw' => HCG.out w') ?_); (focus (go_simp; done)); (try simp only [Act.put, List.setIfInBounds_toArray, List.set_cons_zero, List.set_cons_succ])) |  ((with_reducible refine wpB_load (by first | exact F_int | exact F_u64s) (by with_unfolding_all rfl) (by with_unfolding_all rfl) (by assumption) (by with_unfolding_all rfl) ?_); (try simp only [Act.put, List.setIfInBounds_toArray, List.set_cons_zero, List.set_cons_succ])) | ((with_reducible refine wpB_loadS (n := 2) (us := #[_, _]) A_int (by kernel_rfl) (by with_unfolding_all rfl) (by with_unfolding_all rfl) (by assumption) (by with_unfolding_all rfl) (by with_unfolding_all rfl) ?_); (try simp only [Act.put, List.setIfInBounds_toArray, List.set_cons_zero, List.set_cons_succ])) | ((with_reducible refine wpB_loadS (n := 4) (us := #[_, _, _, _]) A_frac (by kernel_rfl) (by with_unfolding_all rfl) (by with_unfolding_all rfl) (by assumption) (by with_unfolding_all rfl) (by with_unfolding_all rfl) ?_); (try simp only [Act.put, List.setIfInBounds_toArray, List.set_cons_zero, List.set_cons_succ])) | ((refine wpQ_oneG ?_ (by with_unfolding_all rfl) (fun w' => ?_) ?_); rotate_left; (go_simp; rfl); (try simp only [Act.put, List.setIfInBounds_toArray, List.set_cons_zero, List.set_cons_succ])))
            refine wpQuiet_nil ?_
            intro w1 hb1
            go_wp2_with fail
            exact ⟨⟨k + 1, by omega, by go_num, by rw [HST.out], bnext hbr hb1⟩, by simp [intOf]; omega⟩
        · have hkl : k = l.length := by omega
          subst hkl
          have et : l.take l.length = l := List.take_length
          rw [et]
          obtain ⟨tj, htj⟩ : ∃ s, s = textsJ l := ⟨_, rfl⟩
          have hE2 := HE2.out
          rw [← htj] at hE2 ⊢
          have HTJ := hid htj
          clear htj et
          by_cases hlong : 4096 < tj.size
          · have e : printE l = 26 := by rw [hE2, if_pos hlong]
            have e2 : printB l = ⟨#[]⟩ := by rw [printB, e]; rfl
            have E := hid e; have E2 := hid e2; clear e e2 hE2
            go_wp2_with fail
            go_ret2
            exact ⟨by rw [E.out, E2.out]; rfl, hbr⟩
          · have e : printE l = 0 := by rw [hE2, if_neg hlong]
            have e2 : printB l = tj := by rw [printB, e, HTJ.out]; rfl
            have E := hid e; have E2 := hid e2; clear e e2 hE2
            go_wp2_with fail
            go_ret2
            exact ⟨by rw [E.out, E2.out]; rfl, hbr⟩
end Go.Proofs.YtmomeggnegcheaaGreatDoor

/- What the library reads, out of a row's own condition. No condition beyond each statement's own. -/
namespace Go.Proofs.YtmomeggnegcheaaGreatDoor
open Go.RowKit
set_option maxRecDepth 100000

theorem gSynT : (Tryz.prog.globals[1]?).map (·.type) = some 184 := by kernel_rfl
theorem gRngT : (Tryz.prog.globals[2]?).map (·.type) = some 184 := by kernel_rfl
theorem starErr : "*" ++ "errors.errorString" = "*errors.errorString" := by decide
theorem rowErr (u : TypeId) (h : Tryz.prog.typeName? 3 u = some "*errors.errorString") : u = 282 :=
  typeName_ptr_named (nm := "errors.errorString") (by rw [starErr]; kernel_rfl) (by kernel_rfl) (by decide) u (by rw [starErr]; exact h)
theorem cErr : Tryz.prog.cellsOf 284 = 1 := by kernel_rfl
theorem cStr1' : Tryz.prog.cellsOf 9 = 1 := by kernel_rfl
theorem libW_of {W : World} {l : List (String × DataW Unit)} {t1 t2 : List UInt8} (hL : laidMetH Tryz.prog l W) (hsh : W.ShapedOpen Tryz.prog)
    (h1 : (l.filter fun x => x.2.handleName?.isNone).filter (fun p => p.1 == "internal/strconv.uint64pow10") = [("internal/strconv.uint64pow10", Lib.tabData .u64 Lib.pow10Tab)])
    (h2 : (l.filter fun x => x.2.handleName?.isNone).filter (fun p => p.1 == "strconv.ErrSyntax") = [("strconv.ErrSyntax", .iface "*errors.errorString" (.ptr (.agg [.lit (.string t1)])))])
    (h3 : (l.filter fun x => x.2.handleName?.isNone).filter (fun p => p.1 == "strconv.ErrRange") = [("strconv.ErrRange", .iface "*errors.errorString" (.ptr (.agg [.lit (.string t2)])))]) : LibW W := by
  refine ⟨tabW_of hL h1, Tryz.laysM146.s1_3 W hsh, ?_, ?_⟩
  · have h := (laidMetH_iff.1 hL).1.filter (fun p => p.1 == "strconv.ErrSyntax")
    rw [h2] at h
    obtain ⟨a, s, hv, _⟩ := laid_sentinel h gSyn gSynT Tryz.underlying184 rowErr Tryz.underlying282 Tryz.underlying284 rfl rfl Tryz.underlying9 cErr cStr1'
    exact ⟨_, _, hv⟩
  · have h := (laidMetH_iff.1 hL).1.filter (fun p => p.1 == "strconv.ErrRange")
    rw [h3] at h
    obtain ⟨a, s, hv, _⟩ := laid_sentinel h gRng gRngT Tryz.underlying184 rowErr Tryz.underlying282 Tryz.underlying284 rfl rfl Tryz.underlying9 cErr cStr1'
    exact ⟨_, _, hv⟩
section
open Go.ChangeMaps
variable {H : Type} {enc : TypeId × Value → H} {W : World}
theorem open_strA {r : Reach} {b0 : Nat} {v : Value} {d : DataW H} {ps : List MemPlace} (hval : Value.okWide Tryz.prog W r b0 9 v) (h : DataW.Trod enc Tryz.prog W 0 (fun _ => true) true 9 v d ps) : ∃ s : ByteArray, v = .string s ∧ s.size ≤ 9223372036854775807 := by
  obtain ⟨s, rfl, _, _, hs⟩ := open_string Tryz.underlying9 hval h
  exact ⟨s, rfl, by unfold maxLen at hs; omega⟩
end
end Go.Proofs.YtmomeggnegcheaaGreatDoor
