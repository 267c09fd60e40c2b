/- Contracts and plain facts that the claim uses (TpF MaB MaD MaE MaF MaG MaH). Conditions: as each one states. -/
import Derived.Lib.Split
import Derived.Lib.AtoiAll
import Derived.Lib.AtoiErrMem
import Derived.Deep.RegionHeld3
import Derived.Deep.AppendLies
import Derived.Deep.RegionHeldLaw
import Derived.Deep.RegionLaw
import Derived.Stop.LaidErr
import Derived.LaidSub
import Derived.Test.YtbchpkmcpplidaaGreatDoorXb01
import Derived.Test.YtbchpkmcpplidaaGreatDoorXb02
import Derived.Test.YtbchpkmcpplidaaGreatDoorXb03
import Derived.Test.YtbchpkmcpplidaaGreatDoorXb04
import Derived.Test.YtbchpkmcpplidaaGreatDoorXb05
set_option linter.all false

namespace Go.Proofs.YtbchpkmcpplidaaGreatDoor
open Go.RowKit
set_option maxRecDepth 100000

/-- the pieces of a text between bytes, one piece having begun. -/
def splR (c : UInt8) : List UInt8 → List UInt8 → List (List UInt8)
 | cur, [] => [cur]
 | cur, b :: r => if b = c then cur :: splR c [] r else splR c (cur ++ [b]) r
def spl (c : UInt8) (l : List UInt8) : List (List UInt8) := splR c [] l
theorem splR_free (c : UInt8) : ∀ (l cur : List UInt8), c ∉ l → splR c cur l = [cur ++ l]
 | [], cur, _ => by simp [splR]
 | b :: r, cur, h => by
   rw [splR, if_neg (fun e => h (by simp [e])), splR_free c r _ (fun e => h (by simp [e]))]; simp
theorem splR_hit (c : UInt8) : ∀ (p cur r : List UInt8), c ∉ p → splR c cur (p ++ c :: r) = (cur ++ p) :: spl c r
 | [], cur, r, _ => by rw [List.nil_append, splR, if_pos rfl]; simp [spl]
 | b :: p, cur, r, h => by
   rw [List.cons_append, splR, if_neg (fun e => h (by simp [e])), splR_hit c p _ r (fun e => h (by simp [e]))]; simp
theorem spl_free {c : UInt8} {l : List UInt8} (h : c ∉ l) : spl c l = [l] := by rw [spl, splR_free c l [] h]; rfl
theorem spl_hit {c : UInt8} {p : List UInt8} (r : List UInt8) (h : c ∉ p) : spl c (p ++ c :: r) = p :: spl c r := by rw [spl, splR_hit c p [] r h]; rfl
theorem splR_len (c : UInt8) : ∀ (l cur : List UInt8), (splR c cur l).length ≤ l.length + 1
 | [], cur => by simp [splR]
 | b :: r, cur => by
   rw [splR]
   split
   · have := splR_len c r []; simp; omega
   · have := splR_len c r (cur ++ [b]); simp; omega
theorem cut_ex (c : UInt8) (l : List UInt8) : c ∉ l ∨ ∃ p r, l = p ++ c :: r ∧ c ∉ p := by
 by_cases h : c ∈ l
 ·obtain ⟨p, r, e, hp⟩ := List.eq_append_cons_of_mem h; exact .inr ⟨p, r, e, hp⟩
 ·exact .inl h
theorem index_free {c : UInt8} : ∀ {l : List UInt8}, c ∉ l → Lib.index l [c] = -1
 | [], _ => by simp [Lib.index]
 | b :: r, h => by
   have hb : ([c] : List UInt8).isPrefixOf (b :: r) = false := by
     simp [List.isPrefixOf]; intro e; exact h (by simp [e])
   unfold Lib.index
   rw [hb, index_free (fun e => h (by simp [e]))]; rfl
theorem index_hit {c : UInt8} (r : List UInt8) : ∀ {p : List UInt8}, c ∉ p → Lib.index (p ++ c :: r) [c] = p.length
 | [], _ => by simp [Lib.index, List.isPrefixOf]
 | b :: p, h => by
   have hb : ([c] : List UInt8).isPrefixOf (b :: (p ++ c :: r)) = false := by
     simp [List.isPrefixOf]; intro e; exact h (by simp [e])
   rw [List.cons_append]
   unfold Lib.index
   rw [hb, index_hit r (fun e => h (by simp [e]))]
   have : ((p.length : Int) == -1) = false := by simp
   simp [this]
theorem splitK_spl {c : UInt8} : ∀ (k : Nat) (l : List UInt8), Lib.count l [c] ≤ k → Lib.splitK [c] 0 k l = spl c l
 | 0, l, h => by
   rcases cut_ex c l with hf | ⟨p, r, rfl, hp⟩
   · rw [spl_free hf]; rfl
   · have := Lib.count_hit (by simp) (index_hit r hp); omega
 | k + 1, l, h => by
   unfold Lib.splitK
   rcases cut_ex c l with hf | ⟨p, r, rfl, hp⟩
   · rw [index_free hf, if_pos (by rfl), spl_free hf]
   · have hc := Lib.count_hit (by simp) (index_hit r hp)
     rw [index_hit r hp, if_neg (by simp), spl_hit r hp]
     have e1 : (p ++ c :: r).drop (p.length + [c].length) = r := by simp
     have e2 : (p ++ c :: r).take (p.length + 0) = p := by simp
     rw [e1] at hc
     rw [Int.toNat_natCast, e1, e2, splitK_spl k r (by omega)]
theorem splitB_spl (c : UInt8) (l : List UInt8) : Lib.splitB ⟨#[c]⟩ 0 (Lib.countB (bT l) ⟨#[c]⟩) (bT l) = (spl c l).map bT := by
 have h := Lib.splitB_data ⟨#[c]⟩ 0 (Lib.countB (bT l) ⟨#[c]⟩) (bT l)
 have e : Lib.splitK [c] 0 (Lib.countB (bT l) ⟨#[c]⟩) l = spl c l := splitK_spl _ l (Nat.le_refl _)
 have h2 : (Lib.splitB ⟨#[c]⟩ 0 (Lib.countB (bT l) ⟨#[c]⟩) (bT l)).map (·.data.toList) = spl c l := h.trans e
 rw [← h2, List.map_map]
 symm
 exact (List.map_congr_left fun x _ => rfl).trans (List.map_id _)
def isDig (b : UInt8) : Prop := 48 ≤ b.toNat ∧ b.toNat ≤ 57
instance (b : UInt8) : Decidable (isDig b) := inferInstanceAs (Decidable (_ ∧ _))
/-- a decimal number without zeros ahead. -/
def canon (l : List UInt8) : Prop := l ≠ [] ∧ (1 < l.length → l.head? ≠ some 48) ∧ ∀ b ∈ l, isDig b
instance (l : List UInt8) : Decidable (canon l) := inferInstanceAs (Decidable (_ ∧ _ ∧ _))
theorem u8_eq {b : UInt8} {n : Nat} (h : b.toNat = n) : b = UInt8.ofNat n := by rw [← h]; simp
theorem snoc_ind {α : Type} {P : List α → Prop} (h0 : P []) (h1 : ∀ m d, P m → P (m ++ [d])) (l : List α) : P l := by
 have h : ∀ r : List α, P r.reverse := by
  intro r
  induction r with
  | nil => exact h0
  | cons a r ih => rw [List.reverse_cons]; exact h1 _ _ ih
 simpa using h l.reverse
theorem head_app {m : List UInt8} (r : List UInt8) (h : m ≠ []) : (m ++ r).head? = m.head? := by
 cases m with
 | nil => exact absurd rfl h
 | cons a t => rfl
theorem valL_first : ∀ {l : List UInt8}, l ≠ [] → l.head? ≠ some 48 → (∀ b ∈ l, isDig b) → 0 < valL l := by
 intro l
 refine snoc_ind (P := fun l => l ≠ [] → l.head? ≠ some 48 → (∀ b ∈ l, isDig b) → 0 < valL l) ?_ ?_ l
 ·intro h1; exact absurd rfl h1
 ·intro m d ih h1 h2 h3
  rw [valL_snoc]
  by_cases hm : m = []
  ·subst hm
   have hd := h3 d (by simp)
   unfold isDig at hd
   have : d ≠ 48 := fun e => h2 (by simp [e])
   have : d.toNat ≠ 48 := fun e => this (by have := u8_eq e; simpa using this)
   omega
  ·have := ih hm (by rw [head_app _ hm] at h2; exact h2) (fun b hb => h3 b (by simp [hb]))
   omega
theorem canon_dec : ∀ {l : List UInt8}, canon l → Lib.decDigits (valL l) = l := by
 intro l
 refine snoc_ind (P := fun l => canon l → Lib.decDigits (valL l) = l) ?_ ?_ l
 ·intro h; exact absurd rfl h.1
 ·rintro m d ih ⟨h1, h2, h3⟩
  have hd := h3 d (by simp)
  unfold isDig at hd
  have ed : UInt8.ofNat (48 + (d.toNat - 48)) = d := by rw [show 48 + (d.toNat - 48) = d.toNat by omega]; simp
  rw [valL_snoc]
  by_cases hm : m = []
  ·subst hm
   rw [show valL ([] : List UInt8) = 0 from rfl, decD_small (by omega), Nat.mul_zero, Nat.zero_add, ed]; rfl
  ·have hl : 0 < m.length := List.length_pos_iff.2 hm
   have hh : m.head? ≠ some 48 := by
    have := h2 (by simp; omega)
    rw [head_app _ hm] at this; exact this
   have hv := valL_first hm hh (fun b hb => h3 b (by simp [hb]))
   rw [decD_big (by omega), show (10 * valL m + (d.toNat - 48)) / 10 = valL m by omega, show (10 * valL m + (d.toNat - 48)) % 10 = d.toNat - 48 by omega, ed, ih ⟨hm, fun _ => hh, fun b hb => h3 b (by simp [hb])⟩]
theorem dec_canon (u : Nat) : canon (Lib.decDigits u) := by
 refine ⟨fun e => by have := decD_pos u; rw [e] at this; simp at this, fun h e => ?_, fun b hb => decD_dig u b hb⟩
 by_cases hu : 0 < u
 ·obtain ⟨b, r, e2, h1, h2⟩ := decD_first hu
  rw [e2] at e
  simp at e
  rw [e] at h1
  exact absurd h1 (by decide)
 ·have : u = 0 := by omega
  subst this
  rw [decD_small (by decide)] at h
  simp at h
/-- a number of at most 9 digits. -/
def intL (l : List UInt8) : Option Nat := if canon l ∧ l.length ≤ 9 then some (valL l) else none
theorem valL_lt9 {l : List UInt8} (h : ∀ b ∈ l, isDig b) (h9 : l.length ≤ 9) : valL l < 1000000000 := by
 have := valL_lt l (fun b hb => h b hb) l.length (Nat.le_refl _)
 rw [List.take_length] at this
 have h2 := Nat.pow_le_pow_right (n := 10) (by decide) h9
 have : (10 : Nat) ^ 9 = 1000000000 := by decide
 omega
theorem parseU {l : List UInt8} : ∀ (acc : Nat), (∀ b ∈ l, isDig b) → (acc + 1) * 10 ^ l.length ≤ 1000000000000000000 → Lib.parseUint10 acc l = .ok (l.foldl (fun n b => 10 * n + (b.toNat - 48)) acc) := by
 induction l with
 | nil => intro acc _ _; rfl
 | cons b r ih =>
  intro acc h hb
  have hd := h b (by simp)
  unfold isDig at hd
  rw [List.length_cons, Nat.pow_succ] at hb
  have hp : 0 < 10 ^ r.length := Nat.pos_of_ne_zero (by simp)
  have h1 : (acc + 1) * 10 ≤ (acc + 1) * (10 ^ r.length * 10) := Nat.mul_le_mul_left _ (by omega)
  rw [Lib.parseUint10, if_pos hd, if_neg (by omega), if_neg (by omega), List.foldl_cons, show 10 * acc + (b.toNat - 48) = acc * 10 + (b.toNat - 48) by omega]
  refine ih _ (fun b hb => h b (by simp [hb])) ?_
  have h2 : (acc * 10 + (b.toNat - 48) + 1) * 10 ^ r.length ≤ ((acc + 1) * 10) * 10 ^ r.length := Nat.mul_le_mul_right _ (by omega)
  have h3 : ((acc + 1) * 10) * 10 ^ r.length = (acc + 1) * (10 ^ r.length * 10) := by ac_rfl
  omega
theorem atoi_canon {l : List UInt8} (h : canon l) (h9 : l.length ≤ 9) : Lib.atoiAll l = .ok (valL l : Int) := by
 obtain ⟨h1, _, h3⟩ := h
 have hp := Nat.pow_le_pow_right (n := 10) (by decide) h9
 have h10 : (10 : Nat) ^ 9 = 1000000000 := by decide
 have hu := parseU (l := l) 0 h3 (by omega)
 have hv := valL_lt9 h3 h9
 cases l with
 | nil => exact absurd rfl h1
 | cons c r =>
  have hc := h3 c (by simp)
  unfold isDig at hc
  unfold Lib.atoiAll
  simp only
  rw [if_neg (by omega), Lib.parseMag, if_neg (by simp), hu]
  have ev : List.foldl (fun n b => 10 * n + (b.toNat - 48)) 0 (c :: r) = valL (c :: r) := rfl
  simp only [ev]
  have hc2 : ¬ c.toNat = 45 := by omega
  simp only [hc2, not_false_eq_true, true_and, false_and, if_false]
  rw [if_neg (by omega)]
/-- what the program's test of a number comes to. -/
theorem intL_some {l : List UInt8} {v : Int} (h : Lib.atoiAll l = .ok v) (h9 : l.length ≤ 9) (hi : itoaB v = bT l) (h0 : 0 ≤ v) : intL l = some v.toNat := by
 obtain ⟨u, rfl⟩ : ∃ u : Nat, v = u := ⟨v.toNat, by omega⟩
 rw [itoaB_bT] at hi
 have e : Lib.decDigits u = l := by
  have := congrArg (fun s : ByteArray => s.data.toList) hi
  simpa [bT] using this
 have hc := dec_canon u
 rw [e] at hc
 rw [intL, if_pos ⟨hc, h9⟩, ← e, valL_dec]; rfl
theorem intL_canon {l : List UInt8} {n : Nat} (h : intL l = some n) : canon l ∧ l.length ≤ 9 ∧ n = valL l ∧ itoaB (n : Int) = bT l ∧ Lib.atoiAll l = .ok (n : Int) ∧ n < 1000000000 := by
 unfold intL at h
 split at h
 ·rename_i hc
  cases h
  exact ⟨hc.1, hc.2, rfl, by rw [itoaB_bT, canon_dec hc.1], atoi_canon hc.1 hc.2, valL_lt9 hc.1.2.2 hc.2⟩
 ·cases h

def both (a b : Option Nat) : Option (Int × Int) := match a, b with | some x, some y => some (x, y) | _, _ => none
end Go.Proofs.YtbchpkmcpplidaaGreatDoor

namespace Go.Proofs.YtbchpkmcpplidaaGreatDoor
open Go.RowKit
set_option maxHeartbeats 4000000
set_option maxRecDepth 100000

/-- what the library reads of the world: a table, a number, two errors. -/
structure LibW (w : World) : Prop where
 tab : TabW w
 max : ∃ m, w.cell? ⟨0, 0, none⟩ = some (.int .i64 m)
 syn : ∃ tp p, w.var? Tryz.prog "strconv.ErrSyntax" = some #[.iface tp p]
 rng : ∃ tp p, w.var? Tryz.prog "strconv.ErrRange" = some #[.iface tp p]
theorem gSyn : Tryz.prog.globalNamed "strconv.ErrSyntax" = some 2 := by kernel_rfl
theorem gRng : Tryz.prog.globalNamed "strconv.ErrRange" = some 3 := by kernel_rfl
theorem LibW.below {w w' : World} (h : LibW w) (hb : Below w.heap.size w w') : LibW w' := by
 refine ⟨h.tab.below hb, ?_, ?_, ?_⟩
 ·obtain ⟨m, hm⟩ := h.max
  exact ⟨m, (hb.cell (World.block_lt_of_cell? w _ hm)).trans hm⟩
 ·obtain ⟨tp, p, hp⟩ := h.syn
  exact ⟨tp, p, Joins.var_stays gSyn hp hb (Nat.le_refl _)⟩
 ·obtain ⟨tp, p, hp⟩ := h.rng
  exact ⟨tp, p, Joins.var_stays gRng hp hb (Nat.le_refl _)⟩

theorem atoi_ok (l : List UInt8) (v : Int) (w : World) (hz : l.length ≤ 1048576) (h : Lib.atoiAll l = .ok v) :
  Calls Tryz.prog 136 #[.string (bT l)] w fun e w' => e = .returned (.tuple #[.int .i64 v, .nilIface]) ∧ Below w.heap.size w w' := by
 refine (Tryz.strconv_Atoi_ok (bT l) (by rw [bT_size]; omega) v h w).mono ?_
 rintro e w' ⟨rfl, hw⟩
 refine ⟨rfl, ?_⟩
 rcases hw with rfl | ⟨t, rfl⟩
 ·exact Below.refl _ _
 ·exact Lib.bytesWorld_below _ _ _
theorem atoi_no (l : List UInt8) (w : World) (hw : LibW w) (hz : l.length ≤ 1048576) (h : ∀ v, Lib.atoiAll l ≠ .ok v) :
  Calls Tryz.prog 136 #[.string (bT l)] w fun e w' => ∃ n t p, e = .returned (.tuple #[.int .i64 n, .iface t p]) ∧ Below w.heap.size w w' := by
 cases hA : Lib.atoiAll l
 ·rename_i v
  exact absurd hA (h v)
 ·obtain ⟨tp, p, hv⟩ := hw.syn
  refine (Tryz.strconv_Atoi_syntax_var (bT l) (by rw [bT_size]; omega) (hA.trans rfl) tp p w hv).mono ?_
  rintro e w' ⟨N, rfl, _, _, hb⟩
  exact ⟨_, _, _, rfl, hb⟩
 ·obtain ⟨tp, p, hv⟩ := hw.rng
  refine (Tryz.strconv_Atoi_range_var (bT l) (by rw [bT_size]; omega) hA tp p w hv).mono ?_
  rintro e w' ⟨N, rfl, _, _, hb⟩
  exact ⟨_, _, _, rfl, hb⟩
/-- a text's answer: the moves, the number of a word, the error. -/
def RetT (W : World) (R : List (Int × Int) × Int × Int) (r : Ending) (w' : World) : Prop :=
 ∃ a cap, r = .returned (.tuple #[.slice a R.1.length cap, .int .i64 R.2.1, .int .i64 R.2.2]) ∧ Pairs w' a cap R.1 ∧ Below W.heap.size W w'
theorem RetT.none {W w' : World} {R : List (Int × Int) × Int × Int} {r : Ending} {k e : Int} (hR : R = ([], k, e)) (h1 : r = .returned (.tuple #[.slice none 0 0, .int .i64 k, .int .i64 e])) (hb : Below W.heap.size W w') : RetT W R r w' := by
 subst hR; exact ⟨.none, 0, h1, pairs_nil _, hb⟩
theorem atD_mapT (L : List (List UInt8)) (k : Nat) (h : k < L.length) : atD ByteArray.empty (L.map bT) k = bT (atD [] L k) := by simp [atD, h]
theorem spl_sum : ∀ (c : UInt8) (l cur : List UInt8), ∀ x ∈ splR c cur l, x.length ≤ cur.length + l.length
 | c, [], cur, x, hx => by simp [splR] at hx; subst hx; simp
 | c, b :: r, cur, x, hx => by
   rw [splR] at hx
   split at hx
   · rcases List.mem_cons.1 hx with rfl | hx
     · simp
     · have := spl_sum c r [] x hx; simp at this ⊢; omega
   · have := spl_sum c r (cur ++ [b]) x hx; simp at this ⊢; omega
end Go.Proofs.YtbchpkmcpplidaaGreatDoor

namespace Go.Proofs.YtbchpkmcpplidaaGreatDoor
open Go.RowKit
set_option maxHeartbeats 4000000
set_option maxRecDepth 100000

end Go.Proofs.YtbchpkmcpplidaaGreatDoor

namespace Go.Proofs.YtbchpkmcpplidaaGreatDoor
open Go.RowKit
set_option maxHeartbeats 4000000
set_option maxRecDepth 100000

section
variable {P : Program} {ops : Array Oper} {rest : List Oper} {a : Act} {Qa : Act → Prop} {α : Type} {c : α → Value} {sz bytes : Nat} {t e t2 e2 : TypeId} {z : Value} {ad : Option Addr} {cap : Nat} {l : List α} {k : Int} {w : World}
 {d1 d2 d3 : Tmp} {ty1 ty2 ty3 : TypeId} {p1 p2 p3 : String} {s x : Operand} {af1 af2 af3 : Array Edge} {j : Nat}
end

end Go.Proofs.YtbchpkmcpplidaaGreatDoor

namespace Go.Proofs.YtbchpkmcpplidaaGreatDoor
open Go.RowKit
set_option maxRecDepth 100000

theorem gSynT : (Tryz.prog.globals[2]?).map (·.type) = some 170 := by kernel_rfl
theorem gRngT : (Tryz.prog.globals[3]?).map (·.type) = some 170 := by kernel_rfl
theorem starErr : "*" ++ "errors.errorString" = "*errors.errorString" := by decide
theorem rowErr (u : TypeId) (h : Tryz.prog.typeName? 3 u = some "*errors.errorString") : u = 265 :=
 typeName_ptr_named (nm := "errors.errorString") (by rw [starErr]; kernel_rfl) (by kernel_rfl) (by decide) u (by rw [starErr]; exact h)
theorem cErr : Tryz.prog.cellsOf 267 = 1 := by kernel_rfl
theorem cStr1' : Tryz.prog.cellsOf 9 = 1 := by kernel_rfl
theorem libW_of {W : World} {l : List (String × DataW Unit)} {t1 t2 : List UInt8} (hL : laidMetH Tryz.prog l W) (hsh : W.ShapedOpen Tryz.prog)
  (h1 : (l.filter fun x => x.2.handleName?.isNone).filter (fun p => p.1 == "internal/strconv.uint64pow10") = [("internal/strconv.uint64pow10", Lib.tabData .u64 Lib.pow10Tab)])
  (h2 : (l.filter fun x => x.2.handleName?.isNone).filter (fun p => p.1 == "strconv.ErrSyntax") = [("strconv.ErrSyntax", .iface "*errors.errorString" (.ptr (.agg [.lit (.string t1)])))])
  (h3 : (l.filter fun x => x.2.handleName?.isNone).filter (fun p => p.1 == "strconv.ErrRange") = [("strconv.ErrRange", .iface "*errors.errorString" (.ptr (.agg [.lit (.string t2)])))]) : LibW W := by
 refine ⟨tabW_of hL h1, Tryz.laysM146.s1_3 W hsh, ?_, ?_⟩
 ·have h := (laidMetH_iff.1 hL).1.filter (fun p => p.1 == "strconv.ErrSyntax")
  rw [h2] at h
  obtain ⟨a, s, hv, _⟩ := laid_sentinel h gSyn gSynT Tryz.underlying170 rowErr Tryz.underlying265 Tryz.underlying267 rfl rfl Tryz.underlying9 cErr cStr1'
  exact ⟨_, _, hv⟩
 ·have h := (laidMetH_iff.1 hL).1.filter (fun p => p.1 == "strconv.ErrRange")
  rw [h3] at h
  obtain ⟨a, s, hv, _⟩ := laid_sentinel h gRng gRngT Tryz.underlying170 rowErr Tryz.underlying265 Tryz.underlying267 rfl rfl Tryz.underlying9 cErr cStr1'
  exact ⟨_, _, hv⟩
section
open Go.ChangeMaps
variable {H : Type} {enc : TypeId × Value → H} {W : World}
end
end Go.Proofs.YtbchpkmcpplidaaGreatDoor

namespace Go.Proofs.YtbchpkmcpplidaaGreatDoor
open Go.RowKit
set_option maxHeartbeats 2000000
set_option maxRecDepth 100000

/-- the first index of a number, or -1. -/
def idxL (l : List Int) (x : Int) : Int := if l.findIdx (· == x) < l.length then l.findIdx (· == x) else -1
theorem idxL_found {l : List Int} {x : Int} {k : Nat} (hk : k < l.length) (h : atD 0 l k = x) (hno : ∀ j : Nat, j < k → atD 0 l j ≠ x) : idxL l x = k := by
 have hat : ∀ (j : Nat) (hj : j < l.length), atD 0 l j = l[j] := fun j hj => by simp [atD, hj]
 have e : l.findIdx (· == x) = k := by
  rw [List.findIdx_eq hk]
  refine ⟨by rw [← hat k hk, h]; simp, fun j hj => ?_⟩
  have := hno j hj
  rw [hat j (by omega)] at this
  simpa using this
 unfold idxL
 rw [e, if_pos hk]
theorem idxL_none {l : List Int} {x : Int} (hno : ∀ j : Nat, j < l.length → atD 0 l j ≠ x) : idxL l x = -1 := by
 have e : l.findIdx (· == x) = l.length := by
  rw [List.findIdx_eq_length]
  intro y hy
  obtain ⟨i, hi, rfl⟩ := List.mem_iff_getElem.1 hy
  have := hno i hi
  simp [atD, hi] at this
  simpa using this
 unfold idxL
 rw [e, if_neg (by omega)]
theorem idxL_contains (l : List Int) (x : Int) : decide (0 ≤ idxL l x) = l.contains x := by
 by_cases h : ∃ k : Nat, k < l.length ∧ atD 0 l k = x
 ·have hm : x ∈ l := by obtain ⟨k, hk, e⟩ := h; rw [← e]; simp [atD, hk]
  have hlt : l.findIdx (· == x) < l.length := List.findIdx_lt_length_of_exists ⟨x, hm, by simp⟩
  unfold idxL
  rw [if_pos hlt]
  simp [hm]
 ·have hno : ∀ j : Nat, j < l.length → atD 0 l j ≠ x := fun j hj e => h ⟨j, hj, e⟩
  have hm : x ∉ l := fun hm => by
   obtain ⟨i, hi, e⟩ := List.mem_iff_getElem.1 hm
   exact hno i hi (by simp [atD, hi, e])
  rw [idxL_none hno]
  simp [hm]

theorem sIndex_any (a : Option Addr) (cap : Nat) (l : List Int) (x : Int) (w : World) (h : Ints w a cap l) :
  Calls Tryz.prog 88 #[.slice a l.length cap, .int .i64 x] w fun r w' => r = .returned (.int .i64 (idxL l x)) ∧ w = w' := by
 have hcap := h.le
 have hm := h.max
 go_enter Tryz.func88, Tryz.ntmps88
 go_wp2
 go_loop [8, 5] (fun i _ => ∃ k : Nat, k ≤ l.length ∧ i = .int .i64 k ∧ ∀ j : Nat, j < k → atD 0 l j ≠ x) (fun i _ => l.length - (intOf i).toNat)
 case atStart => exact ⟨0, by omega, rfl, fun j hj => by omega⟩
 case round =>
  obtain ⟨k, hk, rfl, hno⟩ := hrel
  by_cases hlt : k < l.length
  ·have HN := hid hno; clear hno
   by_cases e : atD 0 l k = x
   ·have hd : (x == atD 0 l k) = true := by simp [e]
    have hf := idxL_found hlt e HN.out
    have HF := hid hf; clear hf e
    go_wp2_with (with_reducible refine wpList_idx _ 0 E_ints F_int cInt1 (by with_unfolding_all rfl) (by with_unfolding_all rfl) (h) (by first | omega | (simp; done)) (by first | omega | (simp; done)) (fun _ => by with_unfolding_all rfl) (fun _ => ?_))
    go_ret
    exact ⟨by rw [HF.out]; rfl, rfl⟩
   ·have hd : (x == atD 0 l k) = false := by simpa using fun h => e h.symm
    have HE := hid e; clear e
    go_wp2_with (with_reducible refine wpList_idx _ 0 E_ints F_int cInt1 (by with_unfolding_all rfl) (by with_unfolding_all rfl) (h) (by first | omega | (simp; done)) (by first | omega | (simp; done)) (fun _ => by with_unfolding_all rfl) (fun _ => ?_))
    go_round
    case rel =>
     refine ⟨k + 1, by omega, by go_num, fun j hj => ?_⟩
     by_cases e : j = k
     ·subst e; exact HE.out
     ·exact HN.out j (by omega)
    case measure => simp [intOf]; omega
  ·have hkl : k = l.length := by omega
   subst hkl
   have hf := idxL_none hno
   have HF := hid hf; clear hf hno
   go_wp2
   go_ret
   exact ⟨by rw [HF.out]; rfl, rfl⟩
theorem sContains_any (a : Option Addr) (cap : Nat) (l : List Int) (x : Int) (w : World) (h : Ints w a cap l) :
  Calls Tryz.prog 72 #[.slice a l.length cap, .int .i64 x] w fun r w' => r = .returned (.bool (l.contains x)) ∧ w = w' := by
 have hc := idxL_contains l x
 have HI := hid (fun w h => sIndex_any a cap l x w h)
 obtain ⟨i, hi⟩ : ∃ i, i = idxL l x := ⟨_, rfl⟩
 rw [← hi] at hc HI
 have HC := hid hc
 clear hc hi
 go_enter Tryz.func72, Tryz.ntmps72
 go_wp2_with (go_at_call 88; refine (HI.out _ h).mono ?_; rintro e w' ⟨rfl, rfl⟩)
 go_ret
 exact ⟨by rw [← HC.out]; rfl, rfl⟩

theorem pair_any (m : MacV) (ad : Option Addr) (cap : Nat) (p : Int) (w : World) (hg : m.gears ≤ 16) (h0 : 0 ≤ p) (h1 : p < m.gears) :
  Calls Tryz.prog 138 #[mV m ad cap, .int .i64 p] w fun r w' => r = .returned (.agg #[.int .i64 (4 * befM m p + 2), .int .i64 (4 * p)]) ∧ Below w.heap.size w w' := by
 obtain ⟨B, hB⟩ : ∃ B, B = befM m p := ⟨_, rfl⟩
 have hbp := bef_prog h0 h1
 have hmod : (p + m.gears - 1).tmod m.gears = B := by rw [Int.tmod_eq_emod_of_nonneg (by omega), hbp, hB]
 have hnz : ¬ m.gears = 0 := by omega
 have hB0 : 0 ≤ B ∧ B < m.gears := by rw [hB]; unfold befM; split <;> omega
 have hw : IntKind.i64.wrap B = B := IntWalk.i64_in _ (by omega)
 rw [← hB]
 clear hbp hB
 go_enter Tryz.func138, Tryz.ntmps138
 have hS := ((SL.nil w).box (.cells (mC m ad cap) 24)).box (.cells #[.int .i64 0, .int .i64 0] 161)
 simp only [World.size_alloc] at hS
 go_wp2_with ((with_reducible refine wpList_stoR (us := #[.int .i64 (4 * B + 2), .int .i64 (4 * p)]) 0 (by with_unfolding_all rfl) (by with_unfolding_all rfl) (hS) (by with_unfolding_all rfl) (by kernel_rfl) (by with_unfolding_all rfl) (by with_unfolding_all rfl) ?_); intro w1 hS1)
 exact bodyPost_ret (results_cell rfl rfl A_two (by kernel_rfl) (hS1.blk 0 rfl).1) rfl ⟨rfl, hS1.b⟩
theorem over_any (m : MacV) (ad : Option Addr) (cap : Nat) (s : Int) (w : World) (hR : Ints w ad cap m.sw) (hg : m.gears ≤ 16) (h0 : 0 ≤ s) (h1 : s < 4 * m.gears) :
  Calls Tryz.prog 106 #[mV m ad cap, .int .i64 s] w fun r w' => r = .returned (.int .i64 (overM m s)) ∧ Below w.heap.size w w' := by
 have CP := fun w => place_any m ad cap s w hg h0 h1
 have hov : overM m s = if goesM m s then 4 * befM m (placeM m s) + 2 + 4 * placeM m s - s else s := rfl
 have hgo : goesM m s = (decide (0 ≤ placeM m s) && sharedM m (placeM m s) && !m.sw.contains (placeM m s)) := rfl
 obtain ⟨O, hO⟩ : ∃ O, O = overM m s := ⟨_, rfl⟩
 obtain ⟨p, hp⟩ : ∃ p, p = placeM m s := ⟨_, rfl⟩
 obtain ⟨gs, hgs⟩ : ∃ g, g = goesM m s := ⟨_, rfl⟩
 rw [← hO, ← hgs, ← hp] at hov
 rw [← hgs, ← hp] at hgo
 rw [← hp] at CP
 rw [← hO]
 have CS := fun w => shared_any m ad cap p w
 have CC := fun w (h : Ints w ad cap m.sw) => sContains_any ad cap m.sw p w h
 have hcap := hR.le
 have hmx := hR.max
 have HP := hid CP; have HC := hid CC
 have hS := (SL.nil w).box (.cells (mC m ad cap) 24)
 clear CP CC hO hgs hp
 by_cases hp0 : 0 ≤ p
 ·have hpd : decide (p < 0) = false := decide_eq_false (by omega)
  have hpn : ¬ p < 0 := by omega
  cases hsh : sharedM m p
  ·have : gs = false := by rw [hgo, hsh]; simp
   rw [this] at hov
   simp only [Bool.false_eq_true, if_false] at hov
   rw [hsh] at CS
   have HS := hid CS
   subst hov
   clear CS hsh hgo this
   go_enter Tryz.func106, Tryz.ntmps106
   go_wp2_with fail
   refine (HP.out _).mono ?_
   rintro e w1 ⟨rfl, b1⟩
   have hS1 := hS.mono b1
   have q1 := (hS1.blk 0 rfl).1
   go_wp2_with (with_reducible refine wpList_ldS (n := 4) (us := mC m ad cap) A_mach (by kernel_rfl) (by with_unfolding_all rfl) (by with_unfolding_all rfl) (by assumption) (by with_unfolding_all rfl) (by with_unfolding_all rfl) ?_)
   refine (HS.out _).mono ?_
   rintro e w2 ⟨rfl, b2⟩
   have hS2 := hS1.mono b2
   go_wp2_with fail
   go_ret
   exact ⟨rfl, hS2.b⟩
  ·rw [hsh] at CS
   have hp1 := (shared_iff.1 hsh).2.1
   have HS := hid CS
   clear CS
   cases hc : m.sw.contains p
   ·have : gs = true := by rw [hgo, hsh, hc]; simp [hp0]
    rw [this] at hov
    simp only [if_true] at hov
    have CC := HC.out
    rw [hc] at CC
    have HC2 := hid CC
    have CQ := fun w => pair_any m ad cap p w hg hp0 hp1
    obtain ⟨B, hB⟩ : ∃ B, B = befM m p := ⟨_, rfl⟩
    have hB0 : 0 ≤ B ∧ B < m.gears := by rw [hB]; unfold befM; split <;> omega
    rw [← hB] at CQ hov
    have HQ := hid CQ
    have HOV := hid hov
    clear CC HC CQ hov hB hsh hgo this hc
    go_enter Tryz.func106, Tryz.ntmps106
    go_wp2_with fail
    refine (HP.out _).mono ?_
    rintro e w1 ⟨rfl, b1⟩
    have hS1 := hS.mono b1
    have q1 := (hS1.blk 0 rfl).1
    go_wp2_with (with_reducible refine wpList_ldS (n := 4) (us := mC m ad cap) A_mach (by kernel_rfl) (by with_unfolding_all rfl) (by with_unfolding_all rfl) (by assumption) (by with_unfolding_all rfl) (by with_unfolding_all rfl) ?_)
    refine (HS.out _).mono ?_
    rintro e w2 ⟨rfl, b2⟩
    have hS2 := hS1.mono b2
    have q2 := (hS2.blk 0 rfl).1
    go_wp2_with (with_reducible refine wpList_ldB F_sliceM (by with_unfolding_all rfl) (by with_unfolding_all rfl) q2 (by with_unfolding_all rfl) ?_)
    refine (HC2.out _ (hR.below hS2.b)).mono ?_
    rintro e w' ⟨rfl, rfl⟩
    go_wp2_with (with_reducible refine wpList_ldS (n := 4) (us := mC m ad cap) A_mach (by kernel_rfl) (by with_unfolding_all rfl) (by with_unfolding_all rfl) (by assumption) (by with_unfolding_all rfl) (by with_unfolding_all rfl) ?_)
    refine (HQ.out _).mono ?_
    rintro e w3 ⟨rfl, b3⟩
    have hS3 := (hS2.mono b3)
    go_wp2_with fail
    go_ret
    exact ⟨by rw [HOV.out]; rfl, bal hS3.b _⟩
   ·have : gs = false := by rw [hgo, hsh, hc]; simp
    rw [this] at hov
    simp only [Bool.false_eq_true, if_false] at hov
    have CC := HC.out
    rw [hc] at CC
    have HC2 := hid CC
    subst hov
    clear CC HC hsh hgo this hc
    go_enter Tryz.func106, Tryz.ntmps106
    go_wp2_with fail
    refine (HP.out _).mono ?_
    rintro e w1 ⟨rfl, b1⟩
    have hS1 := hS.mono b1
    have q1 := (hS1.blk 0 rfl).1
    go_wp2_with (with_reducible refine wpList_ldS (n := 4) (us := mC m ad cap) A_mach (by kernel_rfl) (by with_unfolding_all rfl) (by with_unfolding_all rfl) (by assumption) (by with_unfolding_all rfl) (by with_unfolding_all rfl) ?_)
    refine (HS.out _).mono ?_
    rintro e w2 ⟨rfl, b2⟩
    have hS2 := hS1.mono b2
    have q2 := (hS2.blk 0 rfl).1
    go_wp2_with (with_reducible refine wpList_ldB F_sliceM (by with_unfolding_all rfl) (by with_unfolding_all rfl) q2 (by with_unfolding_all rfl) ?_)
    refine (HC2.out _ (hR.below hS2.b)).mono ?_
    rintro e w' ⟨rfl, rfl⟩
    go_wp2_with fail
    go_ret
    exact ⟨rfl, hS2.b⟩
 ·have : gs = false := by rw [hgo]; simp [hp0]
  rw [this] at hov
  simp only [Bool.false_eq_true, if_false] at hov
  subst hov
  clear CS hgo this
  go_enter Tryz.func106, Tryz.ntmps106
  go_wp2_with fail
  refine (HP.out _).mono ?_
  rintro e w1 ⟨rfl, b1⟩
  have hS1 := hS.mono b1
  go_wp2_with fail
  go_ret
  exact ⟨rfl, hS1.b⟩
theorem mnext_any (m : MacV) (ad : Option Addr) (cap : Nat) (s : Int) (w : World) (hR : Ints w ad cap m.sw) (hg : m.gears ≤ 16) (h0 : 0 ≤ s) (h1 : s < 4 * m.gears) :
  Calls Tryz.prog 63 #[mV m ad cap, .int .i64 s] w fun r w' => r = .returned (.int .i64 (nextM m s)) ∧ Below w.heap.size w w' := by
 obtain ⟨g, hgq⟩ : ∃ g, g = s / 4 := ⟨_, rfl⟩
 obtain ⟨q, hq⟩ : ∃ q, q = s % 4 := ⟨_, rfl⟩
 have htd : s.tdiv 4 = g := by rw [hgq, Int.tdiv_eq_ediv_of_nonneg h0]
 have htm : s.tmod 4 = q := by rw [hq, Int.tmod_eq_emod_of_nonneg h0]
 have hg0 : 0 ≤ g ∧ g < m.gears := by omega
 have hq0 : 0 ≤ q ∧ q < 4 := by omega
 have hrr := rot_rng (m := m) h0 h1
 have hro : rotM m s = 4 * g + (q + (if fwdM m g then 1 else 3)) % 4 := by unfold rotM; rw [hgq, hq]
 have CF := fun w => forwards_any m ad cap g w hg0.1 (by omega)
 have CO := fun w h => over_any m ad cap (rotM m s) w h hg hrr.1 hrr.2.1
 have hnx : nextM m s = overM m (rotM m s) := rfl
 rw [← hnx] at CO
 obtain ⟨N, hN⟩ : ∃ N, N = nextM m s := ⟨_, rfl⟩
 rw [← hN] at CO ⊢
 have hS := (SL.nil w).box (.cells (mC m ad cap) 24)
 have hcap := hR.le
 have hmx := hR.max
 cases hf : fwdM m g
 ·rw [hf] at CF hro
  simp only [Bool.false_eq_true, if_false] at hro
  rw [hro] at CO
  have hmd : (q + 3).tmod 4 = (q + 3) % 4 := Int.tmod_eq_emod_of_nonneg (by omega)
  obtain ⟨z, hz⟩ : ∃ z, z = (q + 3) % 4 := ⟨_, rfl⟩
  have hz0 : 0 ≤ z ∧ z < 4 := by omega
  rw [← hz] at hmd CO
  have HF := hid CF; have HO := hid CO
  clear CF CO hro hnx hN hrr hgq hq hz hf
  go_enter Tryz.func63, Tryz.ntmps63
  go_wp2_with fail
  refine (HF.out _).mono ?_
  rintro e w1 ⟨rfl, b1⟩
  have hS1 := hS.mono b1
  have q1 := (hS1.blk 0 rfl).1
  go_wp2_with (with_reducible refine wpList_ldS (n := 4) (us := mC m ad cap) A_mach (by kernel_rfl) (by with_unfolding_all rfl) (by with_unfolding_all rfl) (by assumption) (by with_unfolding_all rfl) (by with_unfolding_all rfl) ?_)
  refine (HO.out _ (hR.below hS1.b)).mono ?_
  rintro e w2 ⟨rfl, b2⟩
  go_wp2_with fail
  go_ret
  exact ⟨rfl, bnext hS1.b b2⟩
 ·rw [hf] at CF hro
  simp only [if_true] at hro
  rw [hro] at CO
  have hmd : (q + 1).tmod 4 = (q + 1) % 4 := Int.tmod_eq_emod_of_nonneg (by omega)
  obtain ⟨z, hz⟩ : ∃ z, z = (q + 1) % 4 := ⟨_, rfl⟩
  have hz0 : 0 ≤ z ∧ z < 4 := by omega
  rw [← hz] at hmd CO
  have HF := hid CF; have HO := hid CO
  clear CF CO hro hnx hN hrr hgq hq hz hf
  go_enter Tryz.func63, Tryz.ntmps63
  go_wp2_with fail
  refine (HF.out _).mono ?_
  rintro e w1 ⟨rfl, b1⟩
  have hS1 := hS.mono b1
  have q1 := (hS1.blk 0 rfl).1
  go_wp2_with (with_reducible refine wpList_ldS (n := 4) (us := mC m ad cap) A_mach (by kernel_rfl) (by with_unfolding_all rfl) (by with_unfolding_all rfl) (by assumption) (by with_unfolding_all rfl) (by with_unfolding_all rfl) ?_)
  refine (HO.out _ (hR.below hS1.b)).mono ?_
  rintro e w2 ⟨rfl, b2⟩
  go_wp2_with fail
  go_ret
  exact ⟨rfl, bnext hS1.b b2⟩
end Go.Proofs.YtbchpkmcpplidaaGreatDoor

namespace Go.Proofs.YtbchpkmcpplidaaGreatDoor
open Go.RowKit
set_option maxHeartbeats 8000000
set_option maxRecDepth 100000

theorem permM_step (m : MacV) (k : Nat) (h : k < (permM m).length) : (permM m).take (k + 1) = (permM m).take k ++ [nextM m k] := by
 rw [List.take_succ_eq_append_getElem h]
 simp [permM]
theorem mperm_any (m : MacV) (ad : Option Addr) (cap : Nat) (w : World) (hR : Ints w ad cap m.sw) (hg0 : 1 ≤ m.gears) (hg : m.gears ≤ 16) :
  Calls Tryz.prog 61 #[mV m ad cap] w fun r w' => ∃ v, r = .returned v ∧ OwnI w.heap.size w' v (permM m) ∧ Below w.heap.size w w' := by
 have hcap := hR.le
 have hmx := hR.max
 have hl := permM_len m
 obtain ⟨n, hn⟩ : ∃ n : Nat, (4 * m.gears) = n := ⟨(4 * m.gears).toNat, by omega⟩
 rw [hn, Int.toNat_natCast] at hl
 have CS := fun w => slots_any m ad cap w (by omega) hg
 rw [hn] at CS
 have CN := fun (k : Nat) w (h : Ints w ad cap m.sw) (hk : k < n) => mnext_any m ad cap k w h hg (by omega) (by omega)
 have hS := (SL.nil w).box (.cells (mC m ad cap) 24)
 have HS := hid CS; have HN := hid CN; have HL := hid hl
 have hn64 : n ≤ 64 := by omega
 clear CS CN hl hn
 go_enter Tryz.func61, Tryz.ntmps61
 go_wp2_with fail
 refine (HS.out _).mono ?_
 rintro e w1 ⟨rfl, b1⟩
 have hS1 := (hS.mono b1).nilS (α := Int) (e := 3) cIntS
 go_wp2_with fail
 go_loopw [7, 4, 3] (fun i _ v wr => ∃ k : Nat, k ≤ n ∧ i = .int .i64 k ∧ SL w.heap.size w wr [pOwn cInt 1 3 v ((permM m).take k), pBlk w.heap.size (.cells (mC m ad cap) 24)]) (fun i _ _ _ => n - (intOf i).toNat)
 case atStart => exact ⟨0, by omega, rfl, hS1⟩
 case round =>
  clear hS1 hS
  obtain ⟨k, hk, rfl, hSr⟩ := hrel
  have q1 := (hSr.blk 1 rfl).1
  by_cases hlt : k < n
  ·have hs := permM_step m k (by rw [HL.out]; exact hlt)
   have hle : ((permM m).take k).length ≤ 64 := by rw [List.length_take, HL.out]; omega
   have HST := hid hs; clear hs
   go_wp2_with (with_reducible refine wpList_ldS (n := 4) (us := mC m ad cap) A_mach (by kernel_rfl) (by with_unfolding_all rfl) (by with_unfolding_all rfl) (by assumption) (by with_unfolding_all rfl) (by with_unfolding_all rfl) ?_)
   refine (HN.out k _ (hR.below hSr.b) hlt).mono ?_
   rintro e w4 ⟨rfl, b4⟩
   have hS4 := hSr.mono b4
   go_wp2_with ((with_reducible refine wpList_pushL (y := (nextM m k)) 0 E_ints (by with_unfolding_all rfl) (by with_unfolding_all rfl) (hS4) (by with_unfolding_all rfl) cIntO ⟨rfl, rfl⟩ (by first | with_unfolding_all rfl | simp) (by with_unfolding_all rfl) (by first | omega | (simp; omega)) (by first | omega | (simp; omega)) ?_); intro v5 w5 hS5)
   exact ⟨⟨k + 1, by omega, by go_num, by rw [HST.out]; exact hS5⟩, by simp [intOf]; omega⟩
  ·have hkn : k = n := by omega
   subst hkn
   have et : (permM m).take k = permM m := List.take_of_length_le (by rw [HL.out]; omega)
   rw [et] at hSr
   clear et
   go_wp2_with fail
   go_ret
   exact ⟨_, rfl, hSr.own 0 rfl, hSr.b⟩

section
variable {ops : Array Oper} {rest : List Oper} {a : Act} {Qa : Act → Prop} {w : World} {d : Option Tmp} {ty : TypeId} {p : String} {af : Array Edge} {g : Option (Nat × Bool)} {x y : Operand} {ts : Array TypeId} {b : Bool} {e : Int}
/-- 'when' in a quiet region. -/
theorem wpB_when (hx : a.eval x = .bool b) (hy : a.eval y = .int .i64 e) (hg : Region.wanted (⟨d, .call { callee := .value (.func 59), args := #[x, y], argTypes := ts }, ty, p, af, g⟩ : Oper) (yielded ops a.tmps) = true)
  (h : wpQuiet Tryz.prog ops (Below w.heap.size w) Qa rest (a.put d (.int .i64 (if b then e else 0)))) :
  wpQuiet Tryz.prog ops (Below w.heap.size w) Qa (⟨d, .call { callee := .value (.func 59), args := #[x, y], argTypes := ts }, ty, p, af, g⟩ :: rest) a := by
 refine wpB_call (f := 59) (args := #[.bool b, .int .i64 e]) (.int .i64 (if b then e else 0)) hg (fun w' => ?_) (fun w' _ => calls_below (mwhen_any b e w')) h
 have e1 : a.eval (.func 59) = .func (.func 59) #[] #[] := rfl
 generalize a.eval = ev at hx hy e1
 simp [execOp, resolve, invoke, hx, hy, e1, Deferred.ofValue, go_sem, Tryz.func59]
end

theorem firstE_head {a : Int} {l : List Int} (h : a ≠ 0) : firstE (a :: l) = a := by rw [firstE_cons]; simp [h]
theorem firstE_z (l : List Int) : firstE (0 :: l) = firstE l := by rw [firstE_cons]; simp
theorem swGo_step (m : MacV) (k : Nat) (h : k < m.sw.length) (o : Option Int) : swGo m o (m.sw.drop k) = if sharedM m (atD 0 m.sw k) = false then 10 else match o with
  | none => swGo m (some (atD 0 m.sw k)) (m.sw.drop (k + 1))
  | some b => if atD 0 m.sw k ≤ b then 11 else swGo m (some (atD 0 m.sw k)) (m.sw.drop (k + 1)) := by
 have e : m.sw.drop k = atD 0 m.sw k :: m.sw.drop (k + 1) := by rw [List.drop_eq_getElem_cons h]; simp [atD, h]
 rw [e]
 cases o <;> rfl
end Go.Proofs.YtbchpkmcpplidaaGreatDoor

namespace Go.Proofs.YtbchpkmcpplidaaGreatDoor
open Go.RowKit
set_option maxHeartbeats 8000000
set_option maxRecDepth 100000

theorem A_meet : Aggr Tryz.prog 104 := ⟨_, Tryz.underlying104, rfl⟩
abbrev meC (x : Nat × Int) : Array Value := #[.int .i64 x.1, .int .i64 x.2]
abbrev meO : Option (Nat × Int) → Array Value
 | some x => meC x
 | none => #[.int .i64 0, .int .i64 0]
/-- the answer of meet and first. -/
abbrev meV (r : Option (Nat × Int)) : Value := .tuple #[.agg (meO r), .bool r.isSome]
theorem results_cellSlot {P : Program} {w : World} {fn : Func} {tmps : Array Value} {t T k s : Nat} {us : Array Value} {T' : TypeId} {fr : Nat × Nat} {v : Value} (h : fn.results = #[.cell t T, .tmp s]) (ht : tmps.getD t undef = .pointer (some ⟨k, 0, none⟩)) (hs : tmps.getD s undef = v) (hu : Aggr P T) (hz : (P.info? T).map (·.size) = some us.size) (hb : w.heap[k]? = some (.cells us T' fr)) :
  (results fn tmps).run P w = .ok (.tuple #[.agg us, v]) w := by
 obtain ⟨d, hd, hdd⟩ := hu
 have := run_loadVar_row (P := P) w k T' T us fr d hb hd (by cases d <;> first | exact hdd | rfl | cases hdd) hz
 simp only [Array.getD_eq_getD_getElem?] at ht hs
 simp [results, h, ht, hs, asAddr, this]

theorem before_any (x y : Nat × Int) (w : World) :
  Calls Tryz.prog 126 #[.agg (meC x), .agg (meC y)] w fun r w' => r = .returned (.bool (befo x y)) ∧ Below w.heap.size w w' := by
 have hS := ((SL.nil w).box (.cells (meC x) 104)).box (.cells (meC y) 104)
 unfold befo
 by_cases h1 : (x.1 : Int) < y.1
 ·have d1 : decide ((x.1 : Int) < y.1) = true := decide_eq_true h1
  have d2 : decide (x.1 < y.1) = true := decide_eq_true (by omega)
  go_enter Tryz.func126, Tryz.ntmps126
  go_wp2
  go_ret
  exact ⟨by rw [d2]; rfl, hS.b⟩
 ·have d1 : decide ((x.1 : Int) < y.1) = false := decide_eq_false h1
  have d2 : decide (x.1 < y.1) = false := decide_eq_false (by omega)
  by_cases h3 : (x.1 : Int) = y.1
  ·have d3 : ((x.1 : Int) == y.1) = true := by simpa using h3
   have d4 : decide (x.1 = y.1) = true := decide_eq_true (by omega)
   rw [d2, d4]
   clear h3
   go_enter Tryz.func126, Tryz.ntmps126
   go_wp2
   go_ret
   exact ⟨by simp, hS.b⟩
  ·have d3 : ((x.1 : Int) == y.1) = false := by simpa using h3
   have d4 : decide (x.1 = y.1) = false := decide_eq_false (by omega)
   rw [d2, d4]
   clear h3
   go_enter Tryz.func126, Tryz.ntmps126
   go_wp2
   go_ret
   exact ⟨rfl, hS.b⟩

theorem meet_per2 {m : MacV} {a b : Int} (hg : m.gears ≤ 16) (a0 : 0 ≤ a) (a1 : a < 4 * m.gears) (b0 : 0 ≤ b) (b1 : b < 4 * m.gears) : ∃ L, 0 < L ∧ L ≤ 4096 ∧ itM m a L = a ∧ itM m b L = b := by
 obtain ⟨d, hd⟩ := ordM a0 a1
 obtain ⟨e, he⟩ := ordM b0 b1
 have h1 := hd.le
 have h2 := he.le
 rw [permM_len] at h1 h2
 refine ⟨e * d, Nat.mul_pos he.pos hd.pos, ?_, itP_mul hd.back e, ?_⟩
 ·have : e * d ≤ 64 * 64 := Nat.mul_le_mul (by omega) (by omega)
  omega
 ·rw [Nat.mul_comm]
  exact itP_mul he.back d

theorem meet_any (m : MacV) (ad : Option Addr) (cap : Nat) (a b : Int) (w : World) (hR : Ints w ad cap m.sw) (hg : m.gears ≤ 16) (a0 : 0 ≤ a) (a1 : a < 4 * m.gears) (b0 : 0 ≤ b) (b1 : b < 4 * m.gears) :
  Calls Tryz.prog 125 #[mV m ad cap, .int .i64 a, .int .i64 b] w fun r w' => r = .returned (meV (meetM m a b)) ∧ Below w.heap.size w w' := by
 have hcap := hR.le
 have hmx := hR.max
 obtain ⟨L, hL0, hL1, hLa, hLb⟩ := meet_per2 (m := m) hg a0 a1 b0 b1
 obtain ⟨r, hr⟩ : ∃ r, MeetR m a b r := ⟨_, meetM_spec m a b⟩
 have hrm : meetM m a b = r := (meetM_spec m a b).eq hr
 have CP := fun (s : Int) w (h0 : 0 ≤ s) (h1 : s < 4 * m.gears) => place_any m ad cap s w hg h0 h1
 have CN := fun (s : Int) w (h : Ints w ad cap m.sw) (h0 : 0 ≤ s) (h1 : s < 4 * m.gears) => mnext_any m ad cap s w h hg h0 h1
 have CS := fun (p : Int) w => shared_any m ad cap p w
 rw [hrm]
 have hS := ((SL.nil w).box (.cells (mC m ad cap) 24)).box (.cells #[.int .i64 0, .int .i64 0] 104)
 have HP := hid CP; have HN := hid CN; have HS := hid CS; have HM := hid hr; have HLA := hid hLa; have HLB := hid hLb
 clear CP CN CS hr hrm hLa hLb
 go_enter Tryz.func125, Tryz.ntmps125
 go_wp2_with fail
 go_loopw [8, 9, 10] (fun x y i wr => ∃ n : Nat, n < L ∧ x = .int .i64 (itM m a n) ∧ y = .int .i64 (itM m b n) ∧ i = .int .i64 n ∧ (∀ k, k < n → hitM m (itM m a k) (itM m b k) = false) ∧ SL w.heap.size w wr [pBlk (w.heap.size + 1) (.cells #[.int .i64 0, .int .i64 0] 104), pBlk w.heap.size (.cells (mC m ad cap) 24)]) (fun _ _ i _ => L - (intOf i).toNat)
 case atStart => exact ⟨0, hL0, rfl, rfl, rfl, fun k hk => by omega, by simpa using hS⟩
 case round =>
  clear hS
  obtain ⟨n, hn, rfl, rfl, rfl, hno, hSr⟩ := hrel
  have hX := itM_rng a0 a1 n
  have hY := itM_rng b0 b1 n
  have hX1 := itM_succ a0 a1 n
  have hY1 := itM_succ b0 b1 n
  have hRr := hR.below hSr.b
  obtain ⟨X, eX⟩ : ∃ X, X = itM m a n := ⟨_, rfl⟩
  obtain ⟨Y, eY⟩ : ∃ Y, Y = itM m b n := ⟨_, rfl⟩
  rw [← eX] at hX hX1 ⊢
  rw [← eY] at hY hY1 ⊢
  have CP := fun w => HP.out X w hX.1 hX.2
  have CQ := fun w => HP.out Y w hY.1 hY.2
  have CX := fun w h => HN.out X w h hX.1 hX.2
  have CY := fun w h => HN.out Y w h hY.1 hY.2
  have hhit : hitM m X Y = ((decide (0 ≤ placeM m X) && sharedM m (placeM m X)) && decide (placeM m X = placeM m Y)) := rfl
  obtain ⟨p, hp⟩ : ∃ p, p = placeM m X := ⟨_, rfl⟩
  obtain ⟨q, hq⟩ : ∃ q, q = placeM m Y := ⟨_, rfl⟩
  rw [← hp] at CP hhit
  rw [← hq] at CQ hhit
  have CS := HS.out p
  have q0 := (hSr.blk 1 rfl).1
  have HNO := hid hno; have EX := hid eX; have EY := hid eY; have X1 := hid hX1; have Y1 := hid hY1; have HPP := hid hp
  have HCX := hid CX; have HCY := hid CY
  clear hno eX eY hX1 hY1 CX CY hp hq
  -- what follows where there is no meeting
  by_cases hp0 : 0 ≤ p
  ·have hpd : decide (0 ≤ p) = true := decide_eq_true hp0
   cases hsh : sharedM m p
   ·rw [hsh] at CS
    rw [hsh, Bool.and_false, Bool.false_and] at hhit
    have HIT := hid hhit; have HC := hid CP; have HD := hid CS
    clear CP CQ CS hhit hsh
    go_wp2_with (with_reducible refine wpList_ldS (n := 4) (us := mC m ad cap) A_mach (by kernel_rfl) (by with_unfolding_all rfl) (by with_unfolding_all rfl) (by assumption) (by with_unfolding_all rfl) (by with_unfolding_all rfl) ?_)
    refine (HC.out _).mono ?_
    rintro e w1 ⟨rfl, b1⟩
    have hS1 := hSr.mono b1
    have q1 := (hS1.blk 1 rfl).1
    go_wp2_with (with_reducible refine wpList_ldS (n := 4) (us := mC m ad cap) A_mach (by kernel_rfl) (by with_unfolding_all rfl) (by with_unfolding_all rfl) (by assumption) (by with_unfolding_all rfl) (by with_unfolding_all rfl) ?_)
    refine (HD.out _).mono ?_
    rintro e w2 ⟨rfl, b2⟩
    have hS4 := hS1.mono b2
    clear q0 q1
    go_wp2_with fail
    have R4 := hR.below hS4.b
    have q4 := (hS4.blk 1 rfl).1
    refine wp_region_q (by kernel_rfl) (by kernel_rfl) ?_
    repeat (first | ((with_reducible refine wpB_loadS (n := 4) (us := mC m ad cap) A_mach (by kernel_rfl) (by with_unfolding_all rfl) (by with_unfolding_all rfl) (by assumption) (by with_unfolding_all rfl) (by with_unfolding_all rfl) ?_); (try simp only [Act.put, pA, pB, pC])) | ((refine wpB_call (.int .i64 (nextM m X)) (by with_unfolding_all rfl) (fun w' => ?_) (fun w' hw' => HCX.out w' (R4.below hw')) ?_); (focus (go_simp; done)); (try simp only [Act.put, pA, pB, pC])) | ((refine wpB_call (.int .i64 (nextM m Y)) (by with_unfolding_all rfl) (fun w' => ?_) (fun w' hw' => HCY.out w' (R4.below hw')) ?_); (focus (go_simp; done)); (try simp only [Act.put, pA, pB, pC])) |  ((with_reducible refine wpB_load (by first | exact F_int | exact F_u64s) (by with_unfolding_all rfl) (by with_unfolding_all rfl) (by assumption) (by with_unfolding_all rfl) ?_); (try simp only [Act.put, pA, pB, pC])) | ((refine wpQ_oneG ?_ (by with_unfolding_all rfl) (fun w' => ?_) ?_); rotate_left; (go_simp; rfl); (try simp only [Act.put, pA, pB, pC])))
    refine wpQuiet_nil ?_
    intro w5 hb5
    have hS5 := hS4.mono hb5
    rw [← X1.out, ← Y1.out]
    have hno2 : ∀ k, k < n + 1 → hitM m (itM m a k) (itM m b k) = false := by
     intro k hk
     by_cases e : k = n
     ·rw [e, ← EX.out, ← EY.out]; exact HIT.out
     ·exact HNO.out k (by omega)
    by_cases ea : itM m a (n + 1) = a
    ·by_cases eb : itM m b (n + 1) = b
     ·have hN : MeetR m a b none := meet_none (by omega) ea eb hno2
      have hrn := HM.out.eq hN
      subst hrn
      clear hno2 hN
      rw [ea, eb]
      have da : (a == a) = true := by simp
      have db : (b == b) = true := by simp
      clear ea eb
      go_wp2_with ((with_reducible refine wpList_stoR (us := #[.int .i64 0, .int .i64 0]) 0 (by with_unfolding_all rfl) (by with_unfolding_all rfl) (hS5) (by with_unfolding_all rfl) (by kernel_rfl) (by with_unfolding_all rfl) (by with_unfolding_all rfl) ?_); intro w6 hS6)
      exact bodyPost_ret (results_cellSlot rfl rfl rfl A_meet (by kernel_rfl) (hS6.blk 0 rfl).1) rfl ⟨rfl, hS6.b⟩
     ·have da : (itM m a (n + 1) == a) = true := by simpa using ea
      have db : (itM m b (n + 1) == b) = false := by simpa using eb
      have hnl : n + 1 ≠ L := fun e => eb (by rw [e]; exact HLB.out)
      have HNO2 := hid hno2
      clear ea eb hno2
      go_wp2_with fail
      exact ⟨⟨n + 1, by omega, rfl, rfl, by go_num, HNO2.out, hS5⟩, by simp [intOf]; omega⟩
    ·have da : (itM m a (n + 1) == a) = false := by simpa using ea
     have hnl : n + 1 ≠ L := fun e => ea (by rw [e]; exact HLA.out)
     have HNO2 := hid hno2
     clear ea hno2
     go_wp2_with fail
     exact ⟨⟨n + 1, by omega, rfl, rfl, by go_num, HNO2.out, hS5⟩, by simp [intOf]; omega⟩
   ·rw [hsh] at CS
    by_cases hpq : p = q
    ·rw [hsh, hpd, decide_eq_true hpq] at hhit
     have hM : MeetR m a b (some (n, p)) := ⟨by rw [← EX.out, ← EY.out]; exact hhit, by rw [← EX.out]; exact HPP.out, HNO.out⟩
     have hrn := HM.out.eq hM
     subst hrn
     have hpb : (p == q) = true := by simpa using hpq
     have HC := hid CP; have HD := hid CS; have HE := hid CQ
     clear CP CQ CS hhit hsh hpq hM
     go_wp2_with (with_reducible refine wpList_ldS (n := 4) (us := mC m ad cap) A_mach (by kernel_rfl) (by with_unfolding_all rfl) (by with_unfolding_all rfl) (by assumption) (by with_unfolding_all rfl) (by with_unfolding_all rfl) ?_)
     refine (HC.out _).mono ?_
     rintro e w1 ⟨rfl, b1⟩
     have hS1 := hSr.mono b1
     have q1 := (hS1.blk 1 rfl).1
     go_wp2_with (with_reducible refine wpList_ldS (n := 4) (us := mC m ad cap) A_mach (by kernel_rfl) (by with_unfolding_all rfl) (by with_unfolding_all rfl) (by assumption) (by with_unfolding_all rfl) (by with_unfolding_all rfl) ?_)
     refine (HD.out _).mono ?_
     rintro e w2 ⟨rfl, b2⟩
     have hS2 := hS1.mono b2
     have q2 := (hS2.blk 1 rfl).1
     clear q1
     go_wp2_with (with_reducible refine wpList_ldS (n := 4) (us := mC m ad cap) A_mach (by kernel_rfl) (by with_unfolding_all rfl) (by with_unfolding_all rfl) (by assumption) (by with_unfolding_all rfl) (by with_unfolding_all rfl) ?_)
     refine (HE.out _).mono ?_
     rintro e w3 ⟨rfl, b3⟩
     have hS3 := hS2.mono b3
     clear q0 q2
     go_wp2_with ((with_reducible refine wpList_stoR (us := #[.int .i64 n, .int .i64 p]) 0 (by with_unfolding_all rfl) (by with_unfolding_all rfl) (hS3) (by with_unfolding_all rfl) (by kernel_rfl) (by with_unfolding_all rfl) (by with_unfolding_all rfl) ?_); intro w6 hS6)
     exact bodyPost_ret (results_cellSlot rfl rfl rfl A_meet (by kernel_rfl) (hS6.blk 0 rfl).1) rfl ⟨rfl, hS6.b⟩
    ·rw [hsh, hpd, decide_eq_false hpq] at hhit
     have hpb : (p == q) = false := by simpa using hpq
     have HIT := hid hhit; have HC := hid CP; have HD := hid CS; have HE := hid CQ
     clear CP CQ CS hhit hsh hpq
     go_wp2_with (with_reducible refine wpList_ldS (n := 4) (us := mC m ad cap) A_mach (by kernel_rfl) (by with_unfolding_all rfl) (by with_unfolding_all rfl) (by assumption) (by with_unfolding_all rfl) (by with_unfolding_all rfl) ?_)
     refine (HC.out _).mono ?_
     rintro e w1 ⟨rfl, b1⟩
     have hS1 := hSr.mono b1
     have q1 := (hS1.blk 1 rfl).1
     go_wp2_with (with_reducible refine wpList_ldS (n := 4) (us := mC m ad cap) A_mach (by kernel_rfl) (by with_unfolding_all rfl) (by with_unfolding_all rfl) (by assumption) (by with_unfolding_all rfl) (by with_unfolding_all rfl) ?_)
     refine (HD.out _).mono ?_
     rintro e w2 ⟨rfl, b2⟩
     have hS2 := hS1.mono b2
     have q2 := (hS2.blk 1 rfl).1
     clear q1
     go_wp2_with (with_reducible refine wpList_ldS (n := 4) (us := mC m ad cap) A_mach (by kernel_rfl) (by with_unfolding_all rfl) (by with_unfolding_all rfl) (by assumption) (by with_unfolding_all rfl) (by with_unfolding_all rfl) ?_)
     refine (HE.out _).mono ?_
     rintro e w3 ⟨rfl, b3⟩
     have hS4 := hS2.mono b3
     clear q0 q2
     go_wp2_with fail
     have R4 := hR.below hS4.b
     have q4 := (hS4.blk 1 rfl).1
     refine wp_region_q (by kernel_rfl) (by kernel_rfl) ?_
     repeat (first | ((with_reducible refine wpB_loadS (n := 4) (us := mC m ad cap) A_mach (by kernel_rfl) (by with_unfolding_all rfl) (by with_unfolding_all rfl) (by assumption) (by with_unfolding_all rfl) (by with_unfolding_all rfl) ?_); (try simp only [Act.put, pA, pB, pC])) | ((refine wpB_call (.int .i64 (nextM m X)) (by with_unfolding_all rfl) (fun w' => ?_) (fun w' hw' => HCX.out w' (R4.below hw')) ?_); (focus (go_simp; done)); (try simp only [Act.put, pA, pB, pC])) | ((refine wpB_call (.int .i64 (nextM m Y)) (by with_unfolding_all rfl) (fun w' => ?_) (fun w' hw' => HCY.out w' (R4.below hw')) ?_); (focus (go_simp; done)); (try simp only [Act.put, pA, pB, pC])) |  ((with_reducible refine wpB_load (by first | exact F_int | exact F_u64s) (by with_unfolding_all rfl) (by with_unfolding_all rfl) (by assumption) (by with_unfolding_all rfl) ?_); (try simp only [Act.put, pA, pB, pC])) | ((refine wpQ_oneG ?_ (by with_unfolding_all rfl) (fun w' => ?_) ?_); rotate_left; (go_simp; rfl); (try simp only [Act.put, pA, pB, pC])))
     refine wpQuiet_nil ?_
     intro w5 hb5
     have hS5 := hS4.mono hb5
     rw [← X1.out, ← Y1.out]
     have hno2 : ∀ k, k < n + 1 → hitM m (itM m a k) (itM m b k) = false := by
      intro k hk
      by_cases e : k = n
      ·rw [e, ← EX.out, ← EY.out]; exact HIT.out
      ·exact HNO.out k (by omega)
     by_cases ea : itM m a (n + 1) = a
     ·by_cases eb : itM m b (n + 1) = b
      ·have hN : MeetR m a b none := meet_none (by omega) ea eb hno2
       have hrn := HM.out.eq hN
       subst hrn
       clear hno2 hN
       rw [ea, eb]
       have da : (a == a) = true := by simp
       have db : (b == b) = true := by simp
       clear ea eb
       go_wp2_with ((with_reducible refine wpList_stoR (us := #[.int .i64 0, .int .i64 0]) 0 (by with_unfolding_all rfl) (by with_unfolding_all rfl) (hS5) (by with_unfolding_all rfl) (by kernel_rfl) (by with_unfolding_all rfl) (by with_unfolding_all rfl) ?_); intro w6 hS6)
       exact bodyPost_ret (results_cellSlot rfl rfl rfl A_meet (by kernel_rfl) (hS6.blk 0 rfl).1) rfl ⟨rfl, hS6.b⟩
      ·have da : (itM m a (n + 1) == a) = true := by simpa using ea
       have db : (itM m b (n + 1) == b) = false := by simpa using eb
       have hnl : n + 1 ≠ L := fun e => eb (by rw [e]; exact HLB.out)
       have HNO2 := hid hno2
       clear ea eb hno2
       go_wp2_with fail
       exact ⟨⟨n + 1, by omega, rfl, rfl, by go_num, HNO2.out, hS5⟩, by simp [intOf]; omega⟩
     ·have da : (itM m a (n + 1) == a) = false := by simpa using ea
      have hnl : n + 1 ≠ L := fun e => ea (by rw [e]; exact HLA.out)
      have HNO2 := hid hno2
      clear ea hno2
      go_wp2_with fail
      exact ⟨⟨n + 1, by omega, rfl, rfl, by go_num, HNO2.out, hS5⟩, by simp [intOf]; omega⟩
  ·have hpd : decide (0 ≤ p) = false := decide_eq_false hp0
   rw [hpd, Bool.false_and, Bool.false_and] at hhit
   have HIT := hid hhit; have HC := hid CP
   clear CP CQ CS hhit
   go_wp2_with (with_reducible refine wpList_ldS (n := 4) (us := mC m ad cap) A_mach (by kernel_rfl) (by with_unfolding_all rfl) (by with_unfolding_all rfl) (by assumption) (by with_unfolding_all rfl) (by with_unfolding_all rfl) ?_)
   refine (HC.out _).mono ?_
   rintro e w1 ⟨rfl, b1⟩
   have hS4 := hSr.mono b1
   clear q0
   go_wp2_with fail
   have R4 := hR.below hS4.b
   have q4 := (hS4.blk 1 rfl).1
   refine wp_region_q (by kernel_rfl) (by kernel_rfl) ?_
   repeat (first | ((with_reducible refine wpB_loadS (n := 4) (us := mC m ad cap) A_mach (by kernel_rfl) (by with_unfolding_all rfl) (by with_unfolding_all rfl) (by assumption) (by with_unfolding_all rfl) (by with_unfolding_all rfl) ?_); (try simp only [Act.put, pA, pB, pC])) | ((refine wpB_call (.int .i64 (nextM m X)) (by with_unfolding_all rfl) (fun w' => ?_) (fun w' hw' => HCX.out w' (R4.below hw')) ?_); (focus (go_simp; done)); (try simp only [Act.put, pA, pB, pC])) | ((refine wpB_call (.int .i64 (nextM m Y)) (by with_unfolding_all rfl) (fun w' => ?_) (fun w' hw' => HCY.out w' (R4.below hw')) ?_); (focus (go_simp; done)); (try simp only [Act.put, pA, pB, pC])) |  ((with_reducible refine wpB_load (by first | exact F_int | exact F_u64s) (by with_unfolding_all rfl) (by with_unfolding_all rfl) (by assumption) (by with_unfolding_all rfl) ?_); (try simp only [Act.put, pA, pB, pC])) | ((refine wpQ_oneG ?_ (by with_unfolding_all rfl) (fun w' => ?_) ?_); rotate_left; (go_simp; rfl); (try simp only [Act.put, pA, pB, pC])))
   refine wpQuiet_nil ?_
   intro w5 hb5
   have hS5 := hS4.mono hb5
   rw [← X1.out, ← Y1.out]
   have hno2 : ∀ k, k < n + 1 → hitM m (itM m a k) (itM m b k) = false := by
    intro k hk
    by_cases e : k = n
    ·rw [e, ← EX.out, ← EY.out]; exact HIT.out
    ·exact HNO.out k (by omega)
   by_cases ea : itM m a (n + 1) = a
   ·by_cases eb : itM m b (n + 1) = b
    ·have hN : MeetR m a b none := meet_none (by omega) ea eb hno2
     have hrn := HM.out.eq hN
     subst hrn
     clear hno2 hN
     rw [ea, eb]
     have da : (a == a) = true := by simp
     have db : (b == b) = true := by simp
     clear ea eb
     go_wp2_with ((with_reducible refine wpList_stoR (us := #[.int .i64 0, .int .i64 0]) 0 (by with_unfolding_all rfl) (by with_unfolding_all rfl) (hS5) (by with_unfolding_all rfl) (by kernel_rfl) (by with_unfolding_all rfl) (by with_unfolding_all rfl) ?_); intro w6 hS6)
     exact bodyPost_ret (results_cellSlot rfl rfl rfl A_meet (by kernel_rfl) (hS6.blk 0 rfl).1) rfl ⟨rfl, hS6.b⟩
    ·have da : (itM m a (n + 1) == a) = true := by simpa using ea
     have db : (itM m b (n + 1) == b) = false := by simpa using eb
     have hnl : n + 1 ≠ L := fun e => eb (by rw [e]; exact HLB.out)
     have HNO2 := hid hno2
     clear ea eb hno2
     go_wp2_with fail
     exact ⟨⟨n + 1, by omega, rfl, rfl, by go_num, HNO2.out, hS5⟩, by simp [intOf]; omega⟩
   ·have da : (itM m a (n + 1) == a) = false := by simpa using ea
    have hnl : n + 1 ≠ L := fun e => ea (by rw [e]; exact HLA.out)
    have HNO2 := hid hno2
    clear ea hno2
    go_wp2_with fail
    exact ⟨⟨n + 1, by omega, rfl, rfl, by go_num, HNO2.out, hS5⟩, by simp [intOf]; omega⟩
end Go.Proofs.YtbchpkmcpplidaaGreatDoor

namespace Go.Proofs.YtbchpkmcpplidaaGreatDoor
open Go.RowKit
set_option maxHeartbeats 8000000
set_option maxRecDepth 100000

theorem intsTake {w : World} {a : Option Addr} {cap m : Nat} {r : List Int} (h : Ints w a cap r) (hm : m ≤ r.length) : Ints w a cap (r.take m) := by
 have h1 := h.le
 refine ⟨cIntS, by simp; omega, h.2.2.1, h.2.2.2.1, fun j u hj => ?_⟩
 have e : ∀ L : List Int, (L.flatMap fun x => (cInt x).cells.toList) = L.map cInt := by
  intro L
  induction L with
  | nil => rfl
  | cons x r ih => rw [List.flatMap_cons, ih]; rfl
 refine h.2.2.2.2 j u ?_
 rw [e] at hj ⊢
 rw [List.map_take, List.getElem?_take] at hj
 split at hj
 ·exact hj
 ·cases hj
/-- the pairs gone through at a place of both loops. -/
def pairsAt (l : List Int) (i j : Nat) : List (Int × Int) := pairsTo l i ++ (l.take j).map fun b => (atD 0 l i, b)
theorem pairsAt_zero (l : List Int) (i : Nat) : pairsAt l i 0 = pairsTo l i := by simp [pairsAt]
theorem pairsAt_last (l : List Int) (i : Nat) : pairsAt l i i = pairsTo l (i + 1) := by rw [pairsTo_succ]; rfl
theorem take_snoc {l : List Int} {j : Nat} (h : j < l.length) : l.take (j + 1) = l.take j ++ [atD 0 l j] := by
 rw [List.take_succ_eq_append_getElem h]
 simp [atD, h]
theorem first_step (m : MacV) {l : List Int} {i j : Nat} (h : j < l.length) : firstTo m (pairsAt l i (j + 1)) = bestS (firstTo m (pairsAt l i j)) (meetM m (atD 0 l i) (atD 0 l j)) := by
 unfold pairsAt
 rw [take_snoc h, List.map_append, ← List.append_assoc]
 exact firstTo_snoc m _ _

theorem firstB_any (m : MacV) (ad al : Option Addr) (cap cl : Nat) (l : List Int) (w : World) (hR : Ints w ad cap m.sw) (hL : Ints w al cl l) (hg : m.gears ≤ 16) (hl : ∀ x ∈ l, 0 ≤ x ∧ x < 4 * m.gears) :
  Calls Tryz.prog 77 #[mV m ad cap, .slice al l.length cl] w fun r w' => r = .returned (meV (firstM m l)) ∧ Below w.heap.size w w' := by
 have hcap := hL.le
 have hmx := hL.max
 have CM := fun (i j : Nat) w (h : Ints w ad cap m.sw) (hi : i < l.length) (hj : j < l.length) => meet_any m ad cap (atD 0 l i) (atD 0 l j) w h hg (hl _ (atD_memZ (by omega) (by omega))).1 (hl _ (atD_memZ (by omega) (by omega))).2 (hl _ (atD_memZ (by omega) (by omega))).1 (hl _ (atD_memZ (by omega) (by omega))).2
 have hS := (((SL.nil w).box (.cells (mC m ad cap) 24)).box (.cells #[.int .i64 0, .int .i64 0] 104)).box (.cells (meO none) 104)
 simp only [World.size_alloc] at hS
 have HM := hid CM
 clear CM hl
 go_enter Tryz.func77, Tryz.ntmps77
 go_wp2_with fail
 go_loopw [7, 16] (fun fo i wr => ∃ k : Nat, k ≤ l.length ∧ fo = .bool (firstTo m (pairsTo l k)).isSome ∧ i = .int .i64 k ∧ SL w.heap.size w wr [pBlk (w.heap.size + 1 + 1) (.cells (meO (firstTo m (pairsTo l k))) 104), pBlk (w.heap.size + 1) (.cells #[.int .i64 0, .int .i64 0] 104), pBlk w.heap.size (.cells (mC m ad cap) 24)]) (fun _ i _ => l.length - (intOf i).toNat)
 case atStart => exact ⟨0, by omega, rfl, rfl, hS⟩
 case round =>
  clear hS
  obtain ⟨k, hk, rfl, rfl, hSr⟩ := hrel
  by_cases hlt : k < l.length
  ·have hLr := hL.below hSr.b
   go_wp2_with (with_reducible refine wpList_idx _ 0 E_ints F_int cInt1 (by with_unfolding_all rfl) (by with_unfolding_all rfl) (hLr) (by first | omega | (simp; done)) (by first | omega | (simp; done)) (fun _ => by with_unfolding_all rfl) (fun _ => ?_))
   go_loopw [7, 25] (fun fo i wq => ∃ j : Nat, j ≤ k ∧ fo = .bool (firstTo m (pairsAt l k j)).isSome ∧ i = .int .i64 j ∧ SL w.heap.size w wq [pBlk (w.heap.size + 1 + 1) (.cells (meO (firstTo m (pairsAt l k j))) 104), pBlk (w.heap.size + 1) (.cells #[.int .i64 0, .int .i64 0] 104), pBlk w.heap.size (.cells (mC m ad cap) 24)]) (fun _ i _ => k - (intOf i).toNat)
   case atStart => exact ⟨0, by omega, by rw [pairsAt_zero], rfl, by rw [pairsAt_zero]; exact hSr⟩
   case round =>
    clear hSr hLr
    obtain ⟨j, hj, rfl, rfl, hSq⟩ := hrel
    by_cases hjk : j < k
    ·have hst := first_step m (l := l) (i := k) (j := j) (by omega)
     have hCM := fun w h => HM.out k j w h hlt (by omega)
     have hRq := hR.below hSq.b
     have hLq := intsTake (hL.below hSq.b) (m := k) (by omega)
     have hlk : (l.take k).length = k := by simp; omega
     have hat : atD 0 (l.take k) j = atD 0 l j := atD_take hjk
     obtain ⟨B, hB⟩ : ∃ B, B = firstTo m (pairsAt l k j) := ⟨_, rfl⟩
     obtain ⟨R, hRR⟩ : ∃ R, R = meetM m (atD 0 l k) (atD 0 l j) := ⟨_, rfl⟩
     rw [← hB, ← hRR] at hst
     rw [← hRR] at hCM
     rw [← hB] at hSq ⊢
     have HC := hid hCM
     have HAT := hid hat
     have q2 := (hSq.blk 2 rfl).1
     clear hCM hB hRR hat
     cases R with
     | none =>
      have hst2 : firstTo m (pairsAt l k (j + 1)) = B := hst
      have HST := hid hst2
      clear hst hst2
      go_wp2_with (first | ((with_reducible refine wpList_idxN _ 0 E_ints F_int cInt1 (by with_unfolding_all rfl) (by with_unfolding_all rfl) (hLq) (hlk) (by first | omega | (simp; done)) (by first | omega | (simp; done)) (fun _ => by with_unfolding_all rfl) (fun _ => ?_)); rw [HAT.out]) | (with_reducible refine wpList_ldS (n := 4) (us := mC m ad cap) A_mach (by kernel_rfl) (by with_unfolding_all rfl) (by with_unfolding_all rfl) (by assumption) (by with_unfolding_all rfl) (by with_unfolding_all rfl) ?_))
      refine (HC.out _ hRq).mono ?_
      rintro e w4 ⟨rfl, b4⟩
      have hS4 := hSq.mono b4
      have hS5 := hS4.box (.cells #[.int .i64 0, .int .i64 0] 104)
      clear q2
      go_wp2_with ((with_reducible refine wpList_stoR (us := #[.int .i64 0, .int .i64 0]) 0 (by with_unfolding_all rfl) (by with_unfolding_all rfl) (hS5) (by with_unfolding_all rfl) (by kernel_rfl) (by with_unfolding_all rfl) (by with_unfolding_all rfl) ?_); intro w6 hS6)
      exact ⟨⟨j + 1, by omega, by rw [HST.out], by go_num, by rw [HST.out]; exact hS6.tail⟩, by simp [intOf]; omega⟩
     | some v =>
      cases B with
      | none =>
       have hst2 : firstTo m (pairsAt l k (j + 1)) = some v := hst
       have HST := hid hst2
       clear hst hst2
       go_wp2_with (first | ((with_reducible refine wpList_idxN _ 0 E_ints F_int cInt1 (by with_unfolding_all rfl) (by with_unfolding_all rfl) (hLq) (hlk) (by first | omega | (simp; done)) (by first | omega | (simp; done)) (fun _ => by with_unfolding_all rfl) (fun _ => ?_)); rw [HAT.out]) | (with_reducible refine wpList_ldS (n := 4) (us := mC m ad cap) A_mach (by kernel_rfl) (by with_unfolding_all rfl) (by with_unfolding_all rfl) (by assumption) (by with_unfolding_all rfl) (by with_unfolding_all rfl) ?_))
       refine (HC.out _ hRq).mono ?_
       rintro e w4 ⟨rfl, b4⟩
       have hS4 := hSq.mono b4
       have hS5 := hS4.box (.cells #[.int .i64 0, .int .i64 0] 104)
       clear q2
       have hS6 : ∀ w6, SL w.heap.size w w6 [pBlk w4.heap.size (.cells (meC v) 104), pBlk (w.heap.size + 1 + 1) (.cells (meO none) 104), pBlk (w.heap.size + 1) (.cells #[.int .i64 0, .int .i64 0] 104), pBlk w.heap.size (.cells (mC m ad cap) 24)] → w6.heap[w4.heap.size]? = some (.cells (meC v) 104) := fun w6 h => (h.blk 0 rfl).1
       go_wp2_with (first | (((with_reducible refine wpList_stoR (us := meC v) 0 (by with_unfolding_all rfl) (by with_unfolding_all rfl) (hS5) (by with_unfolding_all rfl) (by kernel_rfl) (by with_unfolding_all rfl) (by with_unfolding_all rfl) ?_); intro w6 hT6); have q6 := hS6 _ hT6) | (with_reducible refine wpList_ldS (n := 2) (us := meC v) A_meet (by kernel_rfl) (by with_unfolding_all rfl) (by with_unfolding_all rfl) (by assumption) (by with_unfolding_all rfl) (by with_unfolding_all rfl) ?_) | ((with_reducible refine wpList_stoR (us := meC v) 1 (by with_unfolding_all rfl) (by with_unfolding_all rfl) (hT6) (by with_unfolding_all rfl) (by kernel_rfl) (by with_unfolding_all rfl) (by with_unfolding_all rfl) ?_); intro w7 hT7))
       exact ⟨⟨j + 1, by omega, by rw [HST.out]; rfl, by go_num, by rw [HST.out]; exact hT7.tail⟩, by simp [intOf]; omega⟩
      | some u =>
       cases hb : befo v u
       ·have hst2 : firstTo m (pairsAt l k (j + 1)) = some u := by rw [hst]; show (if befo v u then some v else some u) = _; rw [hb]; rfl
        have CB := fun w => before_any v u w
        rw [hb] at CB
        have HST := hid hst2; have HB := hid CB
        clear hst hst2 CB hb
        go_wp2_with (first | ((with_reducible refine wpList_idxN _ 0 E_ints F_int cInt1 (by with_unfolding_all rfl) (by with_unfolding_all rfl) (hLq) (hlk) (by first | omega | (simp; done)) (by first | omega | (simp; done)) (fun _ => by with_unfolding_all rfl) (fun _ => ?_)); rw [HAT.out]) | (with_reducible refine wpList_ldS (n := 4) (us := mC m ad cap) A_mach (by kernel_rfl) (by with_unfolding_all rfl) (by with_unfolding_all rfl) (by assumption) (by with_unfolding_all rfl) (by with_unfolding_all rfl) ?_))
        refine (HC.out _ hRq).mono ?_
        rintro e w4 ⟨rfl, b4⟩
        have hS4 := hSq.mono b4
        have hS5 := hS4.box (.cells #[.int .i64 0, .int .i64 0] 104)
        clear q2
        go_wp2_with (first | (((with_reducible refine wpList_stoR (us := meC v) 0 (by with_unfolding_all rfl) (by with_unfolding_all rfl) (hS5) (by with_unfolding_all rfl) (by kernel_rfl) (by with_unfolding_all rfl) (by with_unfolding_all rfl) ?_); intro w6 hT6); have q6 := (hT6.blk 0 rfl).1; have q7 := (hT6.blk 1 rfl).1) | (with_reducible refine wpList_ldS (n := 2) (us := meC v) A_meet (by kernel_rfl) (by with_unfolding_all rfl) (by with_unfolding_all rfl) (by assumption) (by with_unfolding_all rfl) (by with_unfolding_all rfl) ?_) | (with_reducible refine wpList_ldS (n := 2) (us := meC u) A_meet (by kernel_rfl) (by with_unfolding_all rfl) (by with_unfolding_all rfl) (by assumption) (by with_unfolding_all rfl) (by with_unfolding_all rfl) ?_))
        refine (HB.out _).mono ?_
        rintro e w7 ⟨rfl, b7⟩
        have hT7 := hT6.mono b7
        clear q6 q7
        go_wp2_with fail
        exact ⟨⟨j + 1, by omega, by rw [HST.out]; rfl, by go_num, by rw [HST.out]; exact hT7.tail⟩, by simp [intOf]; omega⟩
       ·have hst2 : firstTo m (pairsAt l k (j + 1)) = some v := by rw [hst]; show (if befo v u then some v else some u) = _; rw [hb]; rfl
        have CB := fun w => before_any v u w
        rw [hb] at CB
        have HST := hid hst2; have HB := hid CB
        clear hst hst2 CB hb
        go_wp2_with (first | ((with_reducible refine wpList_idxN _ 0 E_ints F_int cInt1 (by with_unfolding_all rfl) (by with_unfolding_all rfl) (hLq) (hlk) (by first | omega | (simp; done)) (by first | omega | (simp; done)) (fun _ => by with_unfolding_all rfl) (fun _ => ?_)); rw [HAT.out]) | (with_reducible refine wpList_ldS (n := 4) (us := mC m ad cap) A_mach (by kernel_rfl) (by with_unfolding_all rfl) (by with_unfolding_all rfl) (by assumption) (by with_unfolding_all rfl) (by with_unfolding_all rfl) ?_))
        refine (HC.out _ hRq).mono ?_
        rintro e w4 ⟨rfl, b4⟩
        have hS4 := hSq.mono b4
        have hS5 := hS4.box (.cells #[.int .i64 0, .int .i64 0] 104)
        clear q2
        go_wp2_with (first | (((with_reducible refine wpList_stoR (us := meC v) 0 (by with_unfolding_all rfl) (by with_unfolding_all rfl) (hS5) (by with_unfolding_all rfl) (by kernel_rfl) (by with_unfolding_all rfl) (by with_unfolding_all rfl) ?_); intro w6 hT6); have q6 := (hT6.blk 0 rfl).1; have q7 := (hT6.blk 1 rfl).1) | (with_reducible refine wpList_ldS (n := 2) (us := meC v) A_meet (by kernel_rfl) (by with_unfolding_all rfl) (by with_unfolding_all rfl) (by assumption) (by with_unfolding_all rfl) (by with_unfolding_all rfl) ?_) | (with_reducible refine wpList_ldS (n := 2) (us := meC u) A_meet (by kernel_rfl) (by with_unfolding_all rfl) (by with_unfolding_all rfl) (by assumption) (by with_unfolding_all rfl) (by with_unfolding_all rfl) ?_))
        refine (HB.out _).mono ?_
        rintro e w7 ⟨rfl, b7⟩
        have hT7 := hT6.mono b7
        clear q6 q7
        have q8 := (hT7.blk 0 rfl).1
        go_wp2_with (first | (with_reducible refine wpList_ldS (n := 2) (us := meC v) A_meet (by kernel_rfl) (by with_unfolding_all rfl) (by with_unfolding_all rfl) (by assumption) (by with_unfolding_all rfl) (by with_unfolding_all rfl) ?_) | ((with_reducible refine wpList_stoR (us := meC v) 1 (by with_unfolding_all rfl) (by with_unfolding_all rfl) (hT7) (by with_unfolding_all rfl) (by kernel_rfl) (by with_unfolding_all rfl) (by with_unfolding_all rfl) ?_); intro w8 hT8))
        exact ⟨⟨j + 1, by omega, by rw [HST.out]; rfl, by go_num, by rw [HST.out]; exact hT8.tail⟩, by simp [intOf]; omega⟩
    ·have hjj : j = k := by omega
     subst hjj
     have e := pairsAt_last l j
     have HE := hid e
     clear e
     go_wp2_with fail
     exact ⟨⟨j + 1, by omega, by rw [HE.out], by go_num, by rw [← HE.out]; exact hSq⟩, by simp [intOf]; omega⟩
  ·have hkk : k = l.length := by omega
   subst hkk
   have e : firstTo m (pairsTo l l.length) = firstM m l := rfl
   rw [e] at hSr ⊢
   cases hf : firstM m l with
   | none =>
    rw [hf] at hSr
    have q0 := (hSr.blk 0 rfl).1
    have HF := hid hf
    clear hf e
    go_wp2_with (first | (with_reducible refine wpList_ldS (n := 2) (us := #[.int .i64 0, .int .i64 0]) A_meet (by kernel_rfl) (by with_unfolding_all rfl) (by with_unfolding_all rfl) (by assumption) (by with_unfolding_all rfl) (by with_unfolding_all rfl) ?_) | ((with_reducible refine wpList_stoR (us := #[.int .i64 0, .int .i64 0]) 1 (by with_unfolding_all rfl) (by with_unfolding_all rfl) (hSr) (by with_unfolding_all rfl) (by kernel_rfl) (by with_unfolding_all rfl) (by with_unfolding_all rfl) ?_); intro w6 hS6))
    exact bodyPost_ret (results_cellSlot rfl rfl rfl A_meet (by kernel_rfl) (hS6.blk 1 rfl).1) rfl ⟨by rw [HF.out]; rfl, hS6.b⟩
   | some v =>
    rw [hf] at hSr
    have q0 := (hSr.blk 0 rfl).1
    have HF := hid hf
    clear hf e
    go_wp2_with (first | (with_reducible refine wpList_ldS (n := 2) (us := meC v) A_meet (by kernel_rfl) (by with_unfolding_all rfl) (by with_unfolding_all rfl) (by assumption) (by with_unfolding_all rfl) (by with_unfolding_all rfl) ?_) | ((with_reducible refine wpList_stoR (us := meC v) 1 (by with_unfolding_all rfl) (by with_unfolding_all rfl) (hSr) (by with_unfolding_all rfl) (by kernel_rfl) (by with_unfolding_all rfl) (by with_unfolding_all rfl) ?_); intro w6 hS6))
    exact bodyPost_ret (results_cellSlot rfl rfl rfl A_meet (by kernel_rfl) (hS6.blk 1 rfl).1) rfl ⟨by rw [HF.out]; rfl, hS6.b⟩
end Go.Proofs.YtbchpkmcpplidaaGreatDoor

namespace Go.Proofs.YtbchpkmcpplidaaGreatDoor
open Go.RowKit
set_option maxHeartbeats 8000000
set_option maxRecDepth 100000

noncomputable def meetsM (m : MacV) (l : List Int) (n : Int) : Bool := match firstM m l with
 | none => false
 | some x => decide ((x.1 : Int) ≤ n)
theorem meets_any (m : MacV) (ad al : Option Addr) (cap cl : Nat) (l : List Int) (n : Int) (w : World) (hR : Ints w ad cap m.sw) (hL : Ints w al cl l) (hg : m.gears ≤ 16) (hl : ∀ x ∈ l, 0 ≤ x ∧ x < 4 * m.gears) :
  Calls Tryz.prog 82 #[mV m ad cap, .slice al l.length cl, .int .i64 n] w fun r w' => r = .returned (.bool (meetsM m l n)) ∧ Below w.heap.size w w' := by
 have CF := fun w h1 h2 => firstB_any m ad al cap cl l w h1 h2 hg hl
 have hS := (SL.nil w).box (.cells (mC m ad cap) 24)
 have hdef : meetsM m l n = match firstM m l with | none => false | some x => decide ((x.1 : Int) ≤ n) := rfl
 rw [hdef]
 clear hdef
 cases hf : firstM m l with
 | none =>
  rw [hf] at CF
  have HF := hid CF
  clear CF hf
  go_enter Tryz.func82, Tryz.ntmps82
  go_wp2_with fail
  refine (HF.out _ (hR.below hS.b) (hL.below hS.b)).mono ?_
  rintro e w1 ⟨rfl, b1⟩
  have hS1 := (hS.mono b1).box (.cells #[.int .i64 0, .int .i64 0] 104)
  go_wp2_with ((with_reducible refine wpList_stoR (us := #[.int .i64 0, .int .i64 0]) 0 (by with_unfolding_all rfl) (by with_unfolding_all rfl) (hS1) (by with_unfolding_all rfl) (by kernel_rfl) (by with_unfolding_all rfl) (by with_unfolding_all rfl) ?_); intro w2 hS2)
  go_ret
  exact ⟨rfl, hS2.b⟩
 | some v =>
  rw [hf] at CF
  have HF := hid CF
  clear CF hf
  cases hd : decide ((v.1 : Int) ≤ n)
  all_goals
   go_enter Tryz.func82, Tryz.ntmps82
   go_wp2_with fail
   refine (HF.out _ (hR.below hS.b) (hL.below hS.b)).mono ?_
   rintro e w1 ⟨rfl, b1⟩
   have hS1 := (hS.mono b1).box (.cells #[.int .i64 0, .int .i64 0] 104)
   go_wp2_with (first | (((with_reducible refine wpList_stoR (us := meC v) 0 (by with_unfolding_all rfl) (by with_unfolding_all rfl) (hS1) (by with_unfolding_all rfl) (by kernel_rfl) (by with_unfolding_all rfl) (by with_unfolding_all rfl) ?_); intro w2 hS2); have q2 := (hS2.blk 0 rfl).1) | (with_reducible refine wpList_ldB F_int (by with_unfolding_all rfl) (by with_unfolding_all rfl) q2 (by with_unfolding_all rfl) ?_))
   go_ret
   exact ⟨by show _ = Ending.returned (.bool (decide ((v.1 : Int) ≤ n))); rw [hd]; rfl, hS2.b⟩

theorem after_any (m : MacV) (ad : Option Addr) (cap : Nat) (s n : Int) (w : World) (hR : Ints w ad cap m.sw) (hg : m.gears ≤ 16) (h0 : 0 ≤ s) (h1 : s < 4 * m.gears) (n0 : 0 ≤ n) (n1 : n ≤ 9223372036854775807) :
  Calls Tryz.prog 75 #[mV m ad cap, .int .i64 s, .int .i64 n] w fun r w' => r = .returned (.int .i64 (itM m s n.toNat)) ∧ Below w.heap.size w w' := by
 obtain ⟨d, hd⟩ := ordM h0 h1
 have hd0 := hd.pos
 have hdl := hd.le
 rw [permM_len] at hdl
 have hd64 : d ≤ 64 := by omega
 have CN := fun (k : Nat) w (h : Ints w ad cap m.sw) => mnext_any m ad cap (itM m s k) w h hg (itM_rng h0 h1 k).1 (itM_rng h0 h1 k).2
 have CE := fun (k : Nat) => itM_succ h0 h1 k
 have hback : itM m s d = s := hd.back
 have hmin : ∀ k, 0 < k → k < d → itM m s k ≠ s := fun k a b => hd.min k a b
 have hmod := itM_mod hd n.toNat
 have hmd : n.tmod d = ((n.toNat % d : Nat) : Int) := by
  rw [Int.tmod_eq_emod_of_nonneg n0]
  obtain ⟨k, rfl⟩ : ∃ k : Nat, n = k := ⟨n.toNat, by omega⟩
  simp
 obtain ⟨r, hr⟩ : ∃ r, r = n.toNat % d := ⟨_, rfl⟩
 rw [← hr] at hmod hmd
 have hrd : r < d := by rw [hr]; exact Nat.mod_lt _ hd0
 have hs0 : itM m s 0 = s := rfl
 have hS := (SL.nil w).box (.cells (mC m ad cap) 24)
 have HN := hid CN; have HE := hid CE; have HB := hid hback; have HM := hid hmin; have HO := hid hmod
 clear CN CE hback hmin hmod hd hdl hr
 rw [← HO.out]
 have CZ := HN.out 0
 rw [hs0, ← hs0, ← HE.out 0, hs0] at CZ
 have HZ := hid CZ
 clear CZ
 go_enter Tryz.func75, Tryz.ntmps75
 go_wp2_with fail
 have q1 := (hS.blk 0 rfl).1
 refine (HZ.out _ (hR.below hS.b)).mono ?_
 rintro e w1 ⟨rfl, b1⟩
 have hS1 := hS.mono b1
 clear q1
 go_wp2_with fail
 go_loopw [7, 8] (fun n x wr => ∃ k : Nat, 1 ≤ k ∧ k ≤ d ∧ n = .int .i64 k ∧ x = .int .i64 (itM m s k) ∧ SL w.heap.size w wr [pBlk w.heap.size (.cells (mC m ad cap) 24)]) (fun n _ _ => d - (intOf n).toNat)
 case atStart => exact ⟨1, by omega, by omega, rfl, rfl, hS1⟩
 case round =>
  clear hS hS1
  obtain ⟨k, hk1, hk2, rfl, rfl, hSr⟩ := hrel
  by_cases hkd : k < d
  ·have hne : (itM m s k != s) = true := by simpa using HM.out k (by omega) hkd
   have q1 := (hSr.blk 0 rfl).1
   have C := fun w h => HN.out k w h
   rw [← HE.out k] at C
   have HC := hid C
   clear C
   go_wp2_with (with_reducible refine wpList_ldS (n := 4) (us := mC m ad cap) A_mach (by kernel_rfl) (by with_unfolding_all rfl) (by with_unfolding_all rfl) (by assumption) (by with_unfolding_all rfl) (by with_unfolding_all rfl) ?_)
   refine (HC.out _ (hR.below hSr.b)).mono ?_
   rintro e w2 ⟨rfl, b2⟩
   have hS2 := hSr.mono b2
   go_wp2_with fail
   exact ⟨⟨k + 1, by omega, by omega, by go_num, rfl, hS2⟩, by simp [intOf]; omega⟩
  ·have hkk : k = d := by omega
   subst hkk
   rw [HB.out]
   have hne : (s != s) = false := by simp
   have hz : ((k : Int) == 0) = false := by simp; omega
   go_wp2_with fail
   go_loopw [1, 23] (fun x i wq => ∃ j : Nat, j ≤ r ∧ i = .int .i64 j ∧ x = .int .i64 (itM m s j) ∧ SL w.heap.size w wq [pBlk w.heap.size (.cells (mC m ad cap) 24)]) (fun _ i _ => r - (intOf i).toNat)
   case atStart => exact ⟨0, by omega, rfl, rfl, hSr⟩
   case round =>
    clear hSr
    obtain ⟨j, hj, rfl, rfl, hSq⟩ := hrel
    by_cases hjr : j < r
    ·have q1 := (hSq.blk 0 rfl).1
     have C := fun w h => HN.out j w h
     rw [← HE.out j] at C
     have HC := hid C
     clear C
     go_wp2_with (with_reducible refine wpList_ldS (n := 4) (us := mC m ad cap) A_mach (by kernel_rfl) (by with_unfolding_all rfl) (by with_unfolding_all rfl) (by assumption) (by with_unfolding_all rfl) (by with_unfolding_all rfl) ?_)
     refine (HC.out _ (hR.below hSq.b)).mono ?_
     rintro e w2 ⟨rfl, b2⟩
     have hS2 := hSq.mono b2
     go_wp2_with fail
     exact ⟨⟨j + 1, by omega, by go_num, rfl, hS2⟩, by simp [intOf]; omega⟩
    ·have hjj : j = r := by omega
     subst hjj
     go_wp2_with fail
     go_ret
     exact ⟨rfl, hSq.b⟩
end Go.Proofs.YtbchpkmcpplidaaGreatDoor

namespace Go.Proofs.YtbchpkmcpplidaaGreatDoor
open Go.RowKit
set_option maxHeartbeats 8000000
set_option maxRecDepth 100000

def ChkM (m : MacV) (ad : Option Addr) (cap : Nat) : Prop := ∀ w, Ints w ad cap m.sw → Calls Tryz.prog 11 #[mV m ad cap] w fun r w' => r = .returned (.int .i64 (macE m)) ∧ Below w.heap.size w w'
/-- the error of a load. -/
def loadGo (m : MacV) : List Int → List Int → Int
 | _, [] => 0
 | pre, s :: r => if s < 0 ∨ 4 * m.gears ≤ s then 10 else if s ∈ pre then 9 else loadGo m (pre ++ [s]) r
def loadE (m : MacV) (l : List Int) : Int := if macE m ≠ 0 then macE m else if 4 * m.gears < l.length then 5 else loadGo m [] l
def ChkL (m : MacV) (ad : Option Addr) (cap : Nat) (al : Option Addr) (cl : Nat) (l : List Int) : Prop := ∀ w, Ints w ad cap m.sw → Ints w al cl l →
 Calls Tryz.prog 21 #[mV m ad cap, .slice al l.length cl] w fun r w' => r = .returned (.int .i64 (loadE m l)) ∧ Below w.heap.size w w'

theorem mPerm_any (m : MacV) (ad : Option Addr) (cap : Nat) (w : World) (hR : Ints w ad cap m.sw) (HK : ChkM m ad cap) :
  Calls Tryz.prog 12 #[mV m ad cap] w fun r w' => ∃ v, r = .returned (.tuple #[v, .int .i64 (macE m)]) ∧ OwnI w.heap.size w' v (if macE m = 0 then permM m else []) ∧ Below w.heap.size w w' := by
 have hS := (SL.nil w).box (.cells (mC m ad cap) 24)
 have HC := hid HK
 by_cases he : macE m = 0
 ·have hok := (macE_zero he).1
  have CP := fun w h => mperm_any m ad cap w h hok.lo hok.hi
  have HP := hid CP
  rw [if_pos he]
  unfold ChkM at HK
  rw [he] at HK ⊢
  have HC := hid HK
  clear CP HK he hok
  go_enter Tryz.func12, Tryz.ntmps12
  go_wp2_with fail
  refine (HC.out _ (hR.below hS.b)).mono ?_
  rintro e w1 ⟨rfl, b1⟩
  have hS1 := hS.mono b1
  have q1 := (hS1.blk 0 rfl).1
  go_wp2_with (with_reducible refine wpList_ldS (n := 4) (us := mC m ad cap) A_mach (by kernel_rfl) (by with_unfolding_all rfl) (by with_unfolding_all rfl) (by assumption) (by with_unfolding_all rfl) (by with_unfolding_all rfl) ?_)
  refine (HP.out _ (hR.below hS1.b)).mono ?_
  rintro e w2 ⟨v, rfl, ho, b2⟩
  go_wp2_with fail
  go_ret2
  exact ⟨_, rfl, ho.mono hS1.b.size, bnext hS1.b b2⟩
 ·have hne : (macE m != 0) = true := by simpa using he
  obtain ⟨E, hE⟩ : ∃ E, E = macE m := ⟨_, rfl⟩
  rw [if_neg he]
  unfold ChkM at HK
  rw [← hE] at HK hne ⊢
  have HC := hid HK
  clear HK he hE
  go_enter Tryz.func12, Tryz.ntmps12
  go_wp2_with fail
  refine (HC.out _ (hR.below hS.b)).mono ?_
  rintro e w1 ⟨rfl, b1⟩
  have hS1 := hS.mono b1
  go_wp2_with fail
  go_ret2
  exact ⟨_, rfl, own_nil cIntS, hS1.b⟩

theorem mPeriod_any (m : MacV) (ad : Option Addr) (cap : Nat) (w : World) (hR : Ints w ad cap m.sw) (HK : ChkM m ad cap) (hIt : ∀ w', Below w.heap.size w w' → ItoaOk w' (periodN (permM m))) :
  Calls Tryz.prog 14 #[mV m ad cap] w fun r w' => r = .returned (.tuple #[.string (if macE m = 0 then perS (permM m) else ⟨#[]⟩), .int .i64 (macE m)]) ∧ Below w.heap.size w w' := by
 have hS := (SL.nil w).box (.cells (mC m ad cap) 24)
 by_cases he : macE m = 0
 ·have hok := (macE_zero he).1
  have hlo := hok.lo
  have hhi := hok.hi
  have CP := fun w h => mperm_any m ad cap w h hok.lo hok.hi
  have HP := hid CP
  have hpl := permM_len m
  have hpe : permE (permM m) = 0 := permE_ok (permM_isP m) (by omega)
  have CQ := fun a c w h h2 => Period_any a c (permM m) w h (by
   intro x hx
   obtain ⟨i, hi, rfl⟩ := List.mem_iff_getElem.1 hx
   have h1 := (permM_isP m).1 i (by omega) (by omega)
   have e : atD 0 (permM m) i = (permM m)[i] := by simp [atD, hi]
   rw [e] at h1
   unfold InI; omega) (by omega) (fun _ => h2)
  rw [hpe] at CQ
  obtain ⟨S, hSS⟩ : ∃ S, S = perS (permM m) := ⟨_, rfl⟩
  rw [← hSS] at CQ ⊢
  rw [if_pos he]
  unfold ChkM at HK
  rw [he] at HK ⊢
  have HC := hid HK; have HQ := hid CQ
  clear CP HK he hok CQ hSS hpe
  go_enter Tryz.func14, Tryz.ntmps14
  go_wp2_with fail
  refine (HC.out _ (hR.below hS.b)).mono ?_
  rintro e w1 ⟨rfl, b1⟩
  have hS1 := hS.mono b1
  have q1 := (hS1.blk 0 rfl).1
  go_wp2_with (with_reducible refine wpList_ldS (n := 4) (us := mC m ad cap) A_mach (by kernel_rfl) (by with_unfolding_all rfl) (by with_unfolding_all rfl) (by assumption) (by with_unfolding_all rfl) (by with_unfolding_all rfl) ?_)
  refine (HP.out _ (hR.below hS1.b)).mono ?_
  rintro e w2 ⟨v, rfl, ho, b2⟩
  obtain ⟨ap, cp, rfl, hp, _, _⟩ := ho.reps
  have t2 := bnext hS1.b b2
  have HI := hid (hIt _ t2)
  clear hIt
  obtain ⟨P, hP⟩ : ∃ P, P = permM m := ⟨_, rfl⟩
  rw [← hP] at hp HI HQ ⊢
  clear hP
  go_wp2_with fail
  refine (HQ.out _ _ _ hp HI.out).mono ?_
  rintro e w3 ⟨rfl, b3⟩
  go_wp2_with fail
  go_ret2
  exact ⟨rfl, bnext t2 b3⟩
 ·have hne : (macE m != 0) = true := by simpa using he
  obtain ⟨E, hE⟩ : ∃ E, E = macE m := ⟨_, rfl⟩
  rw [if_neg he]
  unfold ChkM at HK
  rw [← hE] at HK hne ⊢
  have HC := hid HK
  clear HK he hE
  go_enter Tryz.func14, Tryz.ntmps14
  go_wp2_with fail
  refine (HC.out _ (hR.below hS.b)).mono ?_
  rintro e w1 ⟨rfl, b1⟩
  have hS1 := hS.mono b1
  go_wp2_with fail
  go_ret2
  exact ⟨rfl, hS1.b⟩
end Go.Proofs.YtbchpkmcpplidaaGreatDoor
