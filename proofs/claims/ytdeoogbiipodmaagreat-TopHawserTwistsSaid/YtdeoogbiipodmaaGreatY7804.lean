/- Contracts and plain facts that the claim uses (TwN TwA TwK). Conditions: as each one states. -/
import Derived.Test.YtdeoogbiipodmaaGreatProg
import Derived.WalkKit
import Derived.WalkSpells
import Derived.Maps.AppendAt
import Derived.Deep.Quiet
import Derived.Maps.Own
import Derived.Maps.OwnSet
import Derived.Maps.Views
import Derived.WalkLawsBesides
import Derived.Laws.EntriesVeiled
import Derived.RangeFuncNested
import Derived.RangeFuncBound
import Derived.RangeFuncCalls
import Derived.RangeFuncLeaves
import Derived.RangeFuncFrom
import Derived.Shelf.Abstract
import Derived.Shelf.RegionOpen
import Derived.OwnWalkIn
import Derived.TacticsInMore
import Derived.LoopNIn
import Derived.LoopIn
import Derived.Deep.QuietTactic
import Derived.BigQuiet
import Derived.Shelf.Strings.Trim
import Derived.Shelf.Strings.SlTrimAscii
import Derived.Shelf.Strings.Repeat
import Derived.Shelf.Strings.OnBuilder
import Derived.Shelf.Strconv.Itoa1
import Derived.Shelf.Strconv.Itoa3
import Derived.Shelf.LaysM
import Derived.Ground.Names2Prog
import Derived.Lib.OthersKept
import Derived.Deep.RegionHeld3
import Derived.Deep.AppendLies
import Derived.Deep.RegionHeldLaw
import Derived.Deep.RegionLaw
import Derived.StillTail
import Derived.Laws.Tables
import Derived.IntWalk
import Derived.Laws.CopyOwn
import Derived.BigRegion
import Derived.ChangeAlike
import Derived.Shelf.Bits.Mul64
import Derived.Lib.ItoaLen
import Derived.Lib.ItoaMem
import Derived.Sort.LoopGhostIn
import Derived.Maps.RangeWalk
import Derived.Maps.Ext
import Derived.Sort.QuietThIn
import Derived.Deep.LoopGhost
import Derived.Lib.Split
import Derived.Lib.AtoiAll
import Derived.Lib.AppendIntMem
import Derived.Lib.SmallJoins
import Derived.LaidSub
import Derived.Lib.LaidTab
import Derived.Lib.AtoiErrMem
import Derived.Stop.LaidErr
import Derived.ReadAgain
import Derived.ChangeSlices
import Derived.OpenShut
import Derived.ProofKit
import Derived.Deep.DeepHandedRow
import Derived.Deep.SlicePairs
import Derived.Laws.IdiomStrings
import Derived.Lib.SliceRun
import Derived.Shelf.Spec.SlicesInsertGrow
import Derived.Test.YtdeoogbiipodmaaGreatXz01
import Derived.Test.YtdeoogbiipodmaaGreatXz02
import Derived.Test.YtdeoogbiipodmaaGreatXz03
import Derived.Test.YtdeoogbiipodmaaGreatXz04
import Derived.Test.YtdeoogbiipodmaaGreatXz05
import Derived.Test.YtdeoogbiipodmaaGreatXz06
import Derived.Test.YtdeoogbiipodmaaGreatXz07
import Derived.Test.YtdeoogbiipodmaaGreatXz08
import Derived.Test.YtdeoogbiipodmaaGreatXz09
import Derived.Test.YtdeoogbiipodmaaGreatXz10
import Derived.Test.YtdeoogbiipodmaaGreatY7801
import Derived.Test.YtdeoogbiipodmaaGreatY7802
import Derived.Test.YtdeoogbiipodmaaGreatY7803
set_option linter.all false

namespace Go.Proofs.YtdeoogbiipodmaaGreat
set_option maxRecDepth 100000
/-- the normal form, computed: letters are pulled to the left. -/
def nfC (n : Nat) : Nat → Nat → List (List Int) → List (List Int)
 | 0, _, X => X
 | f + 1, k, X => if k + 1 < X.length then (match folP n (nth X k) (nth X (k + 1)) with
   | none => nfC n f (k + 1) X
   | some i => nfC n f (k - 1) (pullX X k i)) else X
theorem nfC_star (n : Nat) : ∀ (f k : Nat) (X : List (List Int)), Star (garN n).toGar X (nfC n f k X)
 | 0, _, X => .refl X
 | f + 1, k, X => by
   unfold nfC
   split
   · rename_i hk
     split
     · exact nfC_star n f (k + 1) X
     · rename_i i hf
       exact .step (pullX_pull hk hf) (nfC_star n f (k - 1) (pullX X k i))
   · exact .refl X
def setB (n : Nat) (X : List (List Int)) : Bool := (List.range X.length).all fun k => if k + 1 < X.length then (folP n (nth X k) (nth X (k + 1))).isNone else true
theorem setB_no {n : Nat} {X : List (List Int)} (h : setB n X = true) : NoPull (garN n).toGar X := by
 refine Settled.all (k := X.length) (fun j hj hl => ?_) (by omega)
 have := List.all_eq_true.1 h j (List.mem_range.2 hj)
 rw [if_pos hl] at this
 exact fol_none (Option.isNone_iff_eq_none.1 this)
def facC (n : Nat) (L : List (List Int)) (x : Int) : List (List Int) := if 0 < x then L ++ [swpL (idL n) (ltrI x)] else L.map flP ++ [bkP (revP n) (ltrI x)]
theorem facC_eq (n : Nat) (w : List Int) : facL (garN n) [] w = w.foldl (facC n) [] := rfl
def okB (n : Nat) (w : List Int) : Bool := w.all fun x => decide (x ≠ 0) && decide ((if 0 < x then x else -x) ≤ ((n - 1 : Nat) : Int))
theorem okB_ok {n : Nat} {w : List Int} (h : okB n w = true) : WordOk n w := fun x hx => by
 have := List.all_eq_true.1 h x hx
 simp only [Bool.and_eq_true, decide_eq_true_eq] at this
 exact this
/-- a word is a full twist: forwards (2 half twists) or backwards. -/
def twB (n : Nat) (v : List Int) (c d : Nat) : Bool := okB n v && (setB n (List.replicate c (revP n) ++ List.replicate d (idL n)) && (decide (nfC n 400 0 (v.foldl (facC n) []) = List.replicate c (revP n) ++ List.replicate d (idL n)) && decide ((c + negC v) % 2 = 0)))
theorem twB_ok {n : Nat} {v : List Int} {c d : Nat} (h : twB n v c d = true) : WordOk n v ∧ NfW (garN n) v (List.replicate c (revP n) ++ List.replicate d (idL n)) ∧ (c + negC v) % 2 = 0 := by
 unfold twB at h
 simp only [Bool.and_eq_true, decide_eq_true_eq] at h
 obtain ⟨h1, h2, h3, h4⟩ := h
 refine ⟨okB_ok h1, ⟨?_, setB_no h2⟩, h4⟩
 rw [facC_eq, ← h3]
 exact nfC_star n 400 0 _
theorem tw_comm {n : Nat} {v w : List Int} {c d : Nat} (h : twB n v c d = true) (hw : WordOk n w) : formW n (v ++ w) = formW n (w ++ v) := by
 obtain ⟨h1, h2, h3⟩ := twB_ok h
 exact form_twist h1 hw h2 h3
theorem tw_form {n : Nat} {v : List Int} {c d : Nat} (h : twB n v c d = true) : formW n v = formY n v (List.replicate c (revP n) ++ List.replicate d (idL n)) := by
 obtain ⟨h1, h2, -⟩ := twB_ok h
 exact formW_eq h1 h2
/-- the machine of one gear, and the word of four steps, computed. -/
def macT (t : Int) : MacV := ⟨false, 1, t, []⟩
def wv4 (t : Int) (l : List Int) : List Int :=
 let m := macT t
 let l1 := stepL m l
 let l2 := stepL m l1
 let l3 := stepL m l2
 (weaveS m (weaveS m (weaveS m (weaveS m (orderM m l, []) l) l1) l2) l3).2
theorem wrd_four {t : Int} {l : List Int} (hl : ∀ x ∈ l, 0 ≤ x ∧ x < 4 * (macT t).gears) : wrdL (macT t) l (4 : Nat) = wv4 t l := by
 have e0 : atL (macT t) l 0 = l := atL_zero _ l
 have e1 : atL (macT t) l 1 = stepL (macT t) l := by rw [← atL_succ hl 0, e0]
 have e2 : atL (macT t) l 2 = stepL (macT t) (stepL (macT t) l) := by rw [← atL_succ hl 1, e1]
 have e3 : atL (macT t) l 3 = stepL (macT t) (stepL (macT t) (stepL (macT t) l)) := by rw [← atL_succ hl 2, e2]
 show (weaveS (macT t) (weaveS (macT t) (weaveS (macT t) (weaveS (macT t) (orderM (macT t) l, []) (atL (macT t) l 0)) (atL (macT t) l 1)) (atL (macT t) l 2)) (atL (macT t) l 3)).2 = _
 rw [e0, e1, e2, e3]
 rfl
/-- the words: turn, number of carriers, word. -/
def tw8 : List (Int × Nat × List Int) := [(1, 2, [-1, -1]), (1, 3, [-2, -1, -2, -1, -2, -1]), (1, 3, [-1, -2, -1, -2, -1, -2]), (1, 4, [-2, -1, -3, -2, -1, -3, -2, -1, -3, -2, -1, -3]),
 (-1, 2, [1, 1]), (-1, 3, [1, 2, 1, 2, 1, 2]), (-1, 3, [2, 1, 2, 1, 2, 1]), (-1, 4, [2, 1, 3, 2, 1, 3, 2, 1, 3, 2, 1, 3])]
def halfW : Nat → List Int
 | 2 => [1]
 | 3 => [1, 2, 1]
 | _ => [1, 2, 1, 3, 2, 1]
def spW (t : Int) (k : Nat) : List Int := let h := if t = 1 then (halfW k).reverse.map (fun x => -x) else halfW k; h ++ h
/-- what holds for each of these words. -/
def okW (q : Int × Nat × List Int) : Bool :=
 decide (formY q.2.1 q.2.2 (List.replicate (if q.1 = 1 then q.2.2.length - 2 else 2) (revP q.2.1) ++ List.replicate (if q.1 = 1 then 2 else q.2.2.length - 2) (idL q.2.1)) = (-2 * q.1, [])) && decide (q.2.2.length = q.2.1 * (q.2.1 - 1)) && twB q.2.1 q.2.2 (if q.1 = 1 then q.2.2.length - 2 else 2) (if q.1 = 1 then 2 else q.2.2.length - 2) &&
 (match provL q.2.2 (spW q.1 q.2.1) with
  | none => false
  | some (w, ms) => decide (w = spW q.1 q.2.1) && (allB q.2.1 q.2.2 ms && decide (ms.length ≤ 40)))
theorem tw_all : tw8.all okW = true := by decide +kernel
theorem tw_words : (([1, -1] : List Int).all fun t => ([0, 1, 2, 3] : List Int).all fun a => ([0, 1, 2, 3] : List Int).all fun b => a == b || (tw8.contains (t, 2, wv4 t [a, b]) && ([0, 1, 2, 3] : List Int).all fun c => c == a || (c == b || (tw8.contains (t, 3, wv4 t [a, b, c]) && ([0, 1, 2, 3] : List Int).all fun d => d == a || (d == b || (d == c || tw8.contains (t, 4, wv4 t [a, b, c, d]))))))) = true := by decide +kernel
theorem tw_law {t : Int} {l : List Int} (ht : t = 1 ∨ t = -1) (hr : ∀ x ∈ l, 0 ≤ x ∧ x < 4) (hn : l.Nodup) (h2 : 2 ≤ l.length) (h4 : l.length ≤ 4) : okW (t, l.length, wv4 t l) = true := by
 have hin : tw8.contains (t, l.length, wv4 t l) = true := by
  have H := tw_words
  have mt : t ∈ ([1, -1] : List Int) := by rcases ht with rfl | rfl <;> decide
  have mm : ∀ x ∈ l, x ∈ ([0, 1, 2, 3] : List Int) := fun x hx => by
   have := hr x hx
   simp only [List.mem_cons, List.not_mem_nil, or_false]
   omega
  have H1 := List.all_eq_true.1 H t mt
  match l, h2, h4, hn, mm with
  | [a, b], _, _, hn, mm =>
   have H2 := List.all_eq_true.1 (List.all_eq_true.1 H1 a (mm a (by simp))) b (mm b (by simp))
   simp only [Bool.or_eq_true, Bool.and_eq_true, beq_iff_eq] at H2
   simp at hn
   rcases H2 with H2 | H2
   ·exact absurd H2 hn
   ·exact H2.1
  | [a, b, c], _, _, hn, mm =>
   have H2 := List.all_eq_true.1 (List.all_eq_true.1 H1 a (mm a (by simp))) b (mm b (by simp))
   simp only [Bool.or_eq_true, Bool.and_eq_true, beq_iff_eq] at H2
   simp at hn
   obtain ⟨⟨n1, n2⟩, n3⟩ := hn
   rcases H2 with H2 | H2
   ·exact absurd H2 n1
   ·have H3 := List.all_eq_true.1 H2.2 c (mm c (by simp))
    simp only [Bool.or_eq_true, Bool.and_eq_true, beq_iff_eq] at H3
    rcases H3 with H3 | H3 | H3
    ·exact absurd H3.symm n2
    ·exact absurd H3.symm n3
    ·exact H3.1
  | [a, b, c, d], _, _, hn, mm =>
   have H2 := List.all_eq_true.1 (List.all_eq_true.1 H1 a (mm a (by simp))) b (mm b (by simp))
   simp only [Bool.or_eq_true, Bool.and_eq_true, beq_iff_eq] at H2
   simp at hn
   obtain ⟨⟨n1, n2, n3⟩, ⟨n4, n5⟩, n6⟩ := hn
   rcases H2 with H2 | H2
   ·exact absurd H2 n1
   ·have H3 := List.all_eq_true.1 H2.2 c (mm c (by simp))
    simp only [Bool.or_eq_true, Bool.and_eq_true, beq_iff_eq] at H3
    rcases H3 with H3 | H3 | H3
    ·exact absurd H3.symm n2
    ·exact absurd H3.symm n4
    ·have H4 := List.all_eq_true.1 H3.2 d (mm d (by simp))
     simp only [Bool.or_eq_true, Bool.and_eq_true, beq_iff_eq] at H4
     rcases H4 with H4 | H4 | H4 | H4
     ·exact absurd H4.symm n3
     ·exact absurd H4.symm n5
     ·exact absurd H4.symm n6
     ·exact H4
 exact List.all_eq_true.1 tw_all _ (List.contains_iff_mem.1 hin)
/-- what the statement wants of the word. -/
structure TwOk (t : Int) (k : Nat) (v : List Int) : Prop where
 len : v.length = k * (k - 1)
 ok : WordOk k v
 form : formW k v = (-2 * t, [])
 comm : ∀ w, WordOk k w → formW k (v ++ w) = formW k (w ++ v)
 prov : ∃ ms, provL v (spW t k) = some (spW t k, ms) ∧ allB k v ms = true ∧ ms.length ≤ 40
theorem tw_ok {t : Int} {l : List Int} (ht : t = 1 ∨ t = -1) (hr : ∀ x ∈ l, 0 ≤ x ∧ x < 4) (hn : l.Nodup) (h2 : 2 ≤ l.length) (h4 : l.length ≤ 4) : TwOk t l.length (wrdL (macT t) l (4 : Nat)) := by
 have h := tw_law ht hr hn h2 h4
 rw [wrd_four (t := t) (l := l) (fun x hx => by have := hr x hx; exact ⟨this.1, by show x < 4 * 1; omega⟩)]
 unfold okW at h
 simp only [Bool.and_eq_true, decide_eq_true_eq] at h
 obtain ⟨⟨⟨h1, h3⟩, h5⟩, h6⟩ := h
 refine ⟨h3, (twB_ok h5).1, (tw_form h5).trans h1, fun w hw => tw_comm h5 hw, ?_⟩
 revert h6
 cases provL (wv4 t l) (spW t l.length) with
 | none => intro h; cases h
 | some q =>
  obtain ⟨w, ms⟩ := q
  intro h
  simp only [Bool.and_eq_true, decide_eq_true_eq] at h
  obtain ⟨rfl, h7, h8⟩ := h
  exact ⟨ms, rfl, h7, h8⟩
end Go.Proofs.YtdeoogbiipodmaaGreat

namespace Go.Proofs.YtdeoogbiipodmaaGreat
open Go.RowKit
set_option maxHeartbeats 8000000
set_option maxRecDepth 100000
theorem kd1_any (v : Value) (w : World) : Calls Tryz.prog 107 #[v] w fun r w' => r = .returned (.bool true) ∧ Below w.heap.size w w' := by
 go_enter Tryz.func107, Tryz.ntmps107
 go_wp2_with fail
 go_ret
 exact ⟨rfl, Below.refl _ _⟩
theorem kd2_any (v : Value) (kd : ByteArray) (p x : Int) (w : World) (hx : -1000 ≤ x ∧ x ≤ 1000) : Calls Tryz.prog 108 #[v, .agg #[.string kd, .int .i64 p, .int .i64 x]] w fun r w' => ∃ H c, r = .returned (.slice (some ⟨H, 0, none⟩) 2 c) ∧ OwnI w.heap.size w' (.slice (some ⟨H, 0, none⟩) 2 c) [x, -x] ∧ Below w.heap.size w w' := by
 have hw : IntKind.i64.wrap (-x) = -x := IntWalk.i64_in _ (by omega)
 have q := heap_alloc_new w (.cells #[.string kd, .int .i64 p, .int .i64 x] 84)
 have hb0 := bal (Below.refl w.heap.size w) (.cells #[.string kd, .int .i64 p, .int .i64 x] 84)
 go_enter Tryz.func108, Tryz.ntmps108
 go_wp2
 go_ret
 exact ⟨_, _, rfl, own_newN cIntS [x, -x] 2 rfl (by decide) _ (Array.size_push ..) (Nat.le_succ _) rfl, bal hb0 _⟩
theorem kd3_any (a : Option Addr) (c : Nat) (x y : Int) (w : World) (hS : Ints w a c [x, y]) (hy : -1000 ≤ y ∧ y ≤ 1000) : Calls Tryz.prog 109 #[.slice a 2 c] w fun r w' => r = .returned (.bool (x == -y)) ∧ Below w.heap.size w w' := by
 have hw : IntKind.i64.wrap (-y) = -y := IntWalk.i64_in _ (by omega)
 have HL := hid (show ([x, y] : List Int).length = 2 from rfl)
 have e0 : atD (0 : Int) [x, y] (0 : Int) = x := rfl
 have e1 : atD (0 : Int) [x, y] (1 : Int) = y := rfl
 go_enter Tryz.func109, Tryz.ntmps109
 go_wp2_with fail
 refine wp_region_q kR kR ?_
 repeat (first | (((with_reducible refine wpB_idx2 0 E_ints F_int cInt1 wU (HL.out) wU (hS) oD oD (fun _ => wU) (fun _ => ?_)); (try simp only [Act.put, pA, pB, pC]); (try simp only [cInt])); first | rw [e0] | rw [e1]) | (((refine wpQ_oneG ?_ wU (fun w' => ?_) ?_); rotate_left; (go_simp; rfl); (try simp only [Act.put, pA, pB, pC])); first | rw [hw] | skip) |  ((with_reducible refine wpB_load (by first | exact F_int | fail) wU wU (by assumption) wU ?_); (try simp only [Act.put, pA, pB, pC])) | ((with_reducible refine wpB_loadS (n := 2) (us := #[_, _]) (by fail) kR wU wU (by assumption) wU wU ?_); (try simp only [Act.put, pA, pB, pC])) | ((with_reducible refine wpB_loadS (n := 4) (us := #[_, _, _, _]) (by fail) kR wU wU (by assumption) wU wU ?_); (try simp only [Act.put, pA, pB, pC])) | ((refine wpQ_oneG ?_ wU (fun w' => ?_) ?_); rotate_left; (go_simp; rfl); (try simp only [Act.put, pA, pB, pC])))
 refine wpQuiet_nil ?_
 intro w1 hb1
 go_wp2_with fail
 go_ret
 exact ⟨rfl, hb1⟩
theorem kd4_any (v m : Value) (w : World) (kd : ByteArray) (p x : Int) (hm : m = .agg #[.string kd, .int .i64 p, .int .i64 x]) : Calls Tryz.prog 110 #[v, m] w fun r w' => r = .returned (.slice none 0 0) ∧ Below w.heap.size w w' := by
 subst hm
 go_enter Tryz.func110, Tryz.ntmps110
 go_wp2_with fail
 go_ret
 exact ⟨rfl, bal (Below.refl _ _) _⟩
theorem absI_bd {x : Int} {b : Int} (h : -b ≤ x ∧ x ≤ b) : 0 ≤ absI x ∧ absI x ≤ b := by unfold absI; split <;> omega
theorem kd5_any (a : Option Addr) (c : Nat) (x y : Int) (w : World) (hS : Ints w a c [x, y]) (hx : -1000 ≤ x ∧ x ≤ 1000) (hy : -1000 ≤ y ∧ y ≤ 1000) : Calls Tryz.prog 111 #[.slice a 2 c] w fun r w' => r = .returned (.bool (decide (2 ≤ absI (absI x - absI y)))) ∧ Below w.heap.size w w' := by
 have bx := absI_bd hx
 have bY := absI_bd hy
 have hw : IntKind.i64.wrap (absI x - absI y) = absI x - absI y := IntWalk.i64_in _ (by omega)
 have HL := hid (show ([x, y] : List Int).length = 2 from rfl)
 have e0 : atD (0 : Int) [x, y] (0 : Int) = x := rfl
 have e1 : atD (0 : Int) [x, y] (1 : Int) = y := rfl
 have CX := hid (babs_any x · (by omega) (by omega))
 have CY := hid (babs_any y · (by omega) (by omega))
 have CD := hid (babs_any (absI x - absI y) · (by omega) (by omega))
 have lift : ∀ {n m : Int}, (∀ w, Calls Tryz.prog 33 #[.int .i64 n] w fun r w' => r = .returned (.int .i64 m) ∧ w = w') → ∀ w, Calls Tryz.prog 33 #[.int .i64 n] w fun r w' => r = .returned (.int .i64 m) ∧ Below w.heap.size w w' := fun h w => (h w).mono fun r w' hh => ⟨hh.1, by rw [← hh.2]; exact Below.refl _ _⟩
 have HX := hid (lift CX.out); have HY := hid (lift CY.out); have HD := hid (lift CD.out)
 obtain ⟨ax, hax⟩ : ∃ z, z = absI x := ⟨_, rfl⟩
 obtain ⟨ay, hay⟩ : ∃ z, z = absI y := ⟨_, rfl⟩
 rw [← hax, ← hay] at hw HD ⊢
 rw [← hax] at HX
 rw [← hay] at HY
 obtain ⟨ad, had⟩ : ∃ z, z = absI (ax - ay) := ⟨_, rfl⟩
 rw [← had] at HD ⊢
 clear lift CX CY CD bx bY hax hay had hx hy
 go_enter Tryz.func111, Tryz.ntmps111
 go_wp2_with fail
 refine wp_region_q kR kR ?_
 repeat (first | (((with_reducible refine wpB_idx2 0 E_ints F_int cInt1 wU (HL.out) wU (hS) oD oD (fun _ => wU) (fun _ => ?_)); (try simp only [Act.put, pA, pB, pC]); (try simp only [cInt])); first | rw [e0] | rw [e1]) | ((refine wpB_call (.int .i64 ax) wU (fun w' => ?_) (fun w' hw' => HX.out w') ?_); (focus (go_simp; done)); (try simp only [Act.put, pA, pB, pC])) | ((refine wpB_call (.int .i64 ay) wU (fun w' => ?_) (fun w' hw' => HY.out w') ?_); (focus (go_simp; done)); (try simp only [Act.put, pA, pB, pC])) | ((refine wpB_call (.int .i64 ad) wU (fun w' => ?_) (fun w' hw' => HD.out w') ?_); (focus (go_simp; done)); (try simp only [Act.put, pA, pB, pC])) | (((refine wpQ_oneG ?_ wU (fun w' => ?_) ?_); rotate_left; (go_simp; rfl); (try simp only [Act.put, pA, pB, pC])); first | rw [hw] | skip) |  ((with_reducible refine wpB_load (by first | exact F_int | fail) wU wU (by assumption) wU ?_); (try simp only [Act.put, pA, pB, pC])) | ((with_reducible refine wpB_loadS (n := 2) (us := #[_, _]) (by fail) kR wU wU (by assumption) wU wU ?_); (try simp only [Act.put, pA, pB, pC])) | ((with_reducible refine wpB_loadS (n := 4) (us := #[_, _, _, _]) (by fail) kR wU wU (by assumption) wU wU ?_); (try simp only [Act.put, pA, pB, pC])) | ((refine wpQ_oneG ?_ wU (fun w' => ?_) ?_); rotate_left; (go_simp; rfl); (try simp only [Act.put, pA, pB, pC])))
 refine wpQuiet_nil ?_
 intro w1 hb1
 go_wp2_with fail
 go_ret
 exact ⟨rfl, hb1⟩
theorem kd6_any (a : Option Addr) (c : Nat) (x y : Int) (m : Value) (w : World) (hS : Ints w a c [x, y]) (kd : ByteArray) (p z : Int) (hm : m = .agg #[.string kd, .int .i64 p, .int .i64 z]) : Calls Tryz.prog 112 #[.slice a 2 c, m] w fun r w' => ∃ H c, r = .returned (.slice (some ⟨H, 0, none⟩) 2 c) ∧ OwnI w.heap.size w' (.slice (some ⟨H, 0, none⟩) 2 c) [y, x] ∧ Below w.heap.size w w' := by
 subst hm
 have HL := hid (show ([x, y] : List Int).length = 2 from rfl)
 have e0 : atD (0 : Int) [x, y] (0 : Int) = x := rfl
 have e1 : atD (0 : Int) [x, y] (1 : Int) = y := rfl
 have hb0 := bal (Below.refl w.heap.size w) (.cells #[.string kd, .int .i64 p, .int .i64 z] 84)
 have hS1 := hS.below hb0
 go_enter Tryz.func112, Tryz.ntmps112
 go_wp2_with fail
 refine wp_region_qt 6 kR kR ?_
 simp only [List.take_succ_cons, List.take_zero, List.drop_succ_cons, List.drop_zero]
 repeat (first | (((with_reducible refine wpB_idx2 0 E_ints F_int cInt1 wU (HL.out) wU (hS1) oD oD (fun _ => wU) (fun _ => ?_)); (try simp only [Act.put, pA, pB, pC]); (try simp only [cInt])); first | rw [e0] | rw [e1]) |  ((with_reducible refine wpB_load (by first | exact F_int | fail) wU wU (by assumption) wU ?_); (try simp only [Act.put, pA, pB, pC])) | ((with_reducible refine wpB_loadS (n := 2) (us := #[_, _]) (by fail) kR wU wU (by assumption) wU wU ?_); (try simp only [Act.put, pA, pB, pC])) | ((with_reducible refine wpB_loadS (n := 4) (us := #[_, _, _, _]) (by fail) kR wU wU (by assumption) wU wU ?_); (try simp only [Act.put, pA, pB, pC])) | ((refine wpQ_oneG ?_ wU (fun w' => ?_) ?_); rotate_left; (go_simp; rfl); (try simp only [Act.put, pA, pB, pC])))
 refine wpQuiet_nil ?_
 intro w1 hb1
 go_wp2_with fail
 go_ret
 exact ⟨_, _, rfl, own_newN cIntS [y, x] 2 rfl (by decide) _ (by first | rfl | simp [World.alloc]) (bnext hb0 hb1).size rfl, bal (bnext hb0 hb1) _⟩
theorem btTurns_any (a : Option Addr) (c : Nat) (x y z : Int) (w : World) (hS : Ints w a c [x, y, z]) (hx : -1000 ≤ x ∧ x ≤ 1000 ∧ x ≠ 0) (hy : -1000 ≤ y ∧ y ≤ 1000 ∧ y ≠ 0) (hz : -1000 ≤ z ∧ z ≤ 1000 ∧ z ≠ 0) (hT : turnB x y z = true) : Calls Tryz.prog 113 #[.slice a 3 c] w fun r w' => r = .returned (.bool true) ∧ Below w.heap.size w w' := by
 unfold turnB at hT
 simp only [Bool.and_eq_true, Bool.or_eq_true, decide_eq_true_eq] at hT
 obtain ⟨h1, h2, h3⟩ := hT
 have bx := absI_bd (b := 1000) ⟨hx.1, hx.2.1⟩
 have bY := absI_bd (b := 1000) ⟨hy.1, hy.2.1⟩
 have hw : IntKind.i64.wrap (absI x - absI y) = absI x - absI y := IntWalk.i64_in _ (by omega)
 have HL := hid (show ([x, y, z] : List Int).length = 3 from rfl)
 have e0 : atD (0 : Int) [x, y, z] (0 : Int) = x := rfl
 have e1 : atD (0 : Int) [x, y, z] (1 : Int) = y := rfl
 have e2 : atD (0 : Int) [x, y, z] (2 : Int) = z := rfl
 have CX := hid (babs_any x · (by omega) (by omega)); have CY := hid (babs_any y · (by omega) (by omega)); have CZ := hid (babs_any z · (by omega) (by omega))
 have CD := hid (babs_any (absI x - absI y) · (by omega) (by omega))
 have SX := hid (bsign_any x · hx.2.2); have SY := hid (bsign_any y · hy.2.2); have SZ := hid (bsign_any z · hz.2.2)
 obtain ⟨ax, hax⟩ : ∃ v, v = absI x := ⟨_, rfl⟩
 obtain ⟨ay, hay⟩ : ∃ v, v = absI y := ⟨_, rfl⟩
 obtain ⟨sx, hsx⟩ : ∃ v, v = sgnI x := ⟨_, rfl⟩
 obtain ⟨sy, hsy⟩ : ∃ v, v = sgnI y := ⟨_, rfl⟩
 obtain ⟨sz, hsz⟩ : ∃ v, v = sgnI z := ⟨_, rfl⟩
 rw [← h1] at CZ
 rw [h2] at CD
 rw [← hax] at CX CZ hw h2 CD
 rw [← hay] at CY hw h2 CD
 rw [← hsx] at SX h3
 rw [← hsy] at SY h3
 rw [← hsz] at SZ h3
 have b1 : (ax == ax) = true := by simp
 clear bx bY h1 h2 hax hay hsx hsy hsz hx hy hz
 by_cases hxy : sx = sy
 ·subst hxy
  have b2 : (sx == sx) = true := by simp
  clear h3 SZ
  go_enter Tryz.func113, Tryz.ntmps113
  go_wp2_with fail
  refine wp_region_q kR kR ?_
  repeat (first | (((with_reducible refine wpB_idx2 0 E_ints F_int cInt1 wU (HL.out) wU (hS) oD oD (fun _ => wU) (fun _ => ?_)); (try simp only [Act.put, pA, pB, pC]); (try simp only [cInt])); first | rw [e0] | rw [e1] | rw [e2]) |  ((with_reducible refine wpB_load (by first | exact F_int | fail) wU wU (by assumption) wU ?_); (try simp only [Act.put, pA, pB, pC])) | ((with_reducible refine wpB_loadS (n := 2) (us := #[_, _]) (by fail) kR wU wU (by assumption) wU wU ?_); (try simp only [Act.put, pA, pB, pC])) | ((with_reducible refine wpB_loadS (n := 4) (us := #[_, _, _, _]) (by fail) kR wU wU (by assumption) wU wU ?_); (try simp only [Act.put, pA, pB, pC])) | ((refine wpQ_oneG ?_ wU (fun w' => ?_) ?_); rotate_left; (go_simp; rfl); (try simp only [Act.put, pA, pB, pC])))
  refine wpQuiet_nil ?_
  intro w1 hb1
  go_wp2_with fail
  refine (CX.out _).mono ?_
  rintro e w10 ⟨rfl, rfl⟩
  go_wp2_with fail
  refine (CZ.out _).mono ?_
  rintro e w11 ⟨rfl, rfl⟩
  go_wp2_with fail
  refine (CX.out _).mono ?_
  rintro e w12 ⟨rfl, rfl⟩
  go_wp2_with fail
  refine (CY.out _).mono ?_
  rintro e w13 ⟨rfl, rfl⟩
  go_wp2_with fail
  refine (CD.out _).mono ?_
  rintro e w14 ⟨rfl, rfl⟩
  go_wp2_with fail
  refine (SX.out _).mono ?_
  rintro e w15 ⟨rfl, rfl⟩
  go_wp2_with fail
  refine (SY.out _).mono ?_
  rintro e w16 ⟨rfl, rfl⟩
  go_wp2_with fail
  go_ret
  exact ⟨rfl, hb1⟩
 ·have h4 : sy = sz := by rcases h3 with h3 | h3; exact absurd h3 hxy; exact h3
  subst h4
  have b2 : (sx == sy) = false := beq_eq_false_iff_ne.2 hxy
  have b3 : (sy == sy) = true := by simp
  clear h3 hxy
  go_enter Tryz.func113, Tryz.ntmps113
  go_wp2_with fail
  refine wp_region_q kR kR ?_
  repeat (first | (((with_reducible refine wpB_idx2 0 E_ints F_int cInt1 wU (HL.out) wU (hS) oD oD (fun _ => wU) (fun _ => ?_)); (try simp only [Act.put, pA, pB, pC]); (try simp only [cInt])); first | rw [e0] | rw [e1] | rw [e2]) |  ((with_reducible refine wpB_load (by first | exact F_int | fail) wU wU (by assumption) wU ?_); (try simp only [Act.put, pA, pB, pC])) | ((with_reducible refine wpB_loadS (n := 2) (us := #[_, _]) (by fail) kR wU wU (by assumption) wU wU ?_); (try simp only [Act.put, pA, pB, pC])) | ((with_reducible refine wpB_loadS (n := 4) (us := #[_, _, _, _]) (by fail) kR wU wU (by assumption) wU wU ?_); (try simp only [Act.put, pA, pB, pC])) | ((refine wpQ_oneG ?_ wU (fun w' => ?_) ?_); rotate_left; (go_simp; rfl); (try simp only [Act.put, pA, pB, pC])))
  refine wpQuiet_nil ?_
  intro w1 hb1
  go_wp2_with fail
  refine (CX.out _).mono ?_
  rintro e w10 ⟨rfl, rfl⟩
  go_wp2_with fail
  refine (CZ.out _).mono ?_
  rintro e w11 ⟨rfl, rfl⟩
  go_wp2_with fail
  refine (CX.out _).mono ?_
  rintro e w12 ⟨rfl, rfl⟩
  go_wp2_with fail
  refine (CY.out _).mono ?_
  rintro e w13 ⟨rfl, rfl⟩
  go_wp2_with fail
  refine (CD.out _).mono ?_
  rintro e w14 ⟨rfl, rfl⟩
  go_wp2_with fail
  refine (SX.out _).mono ?_
  rintro e w15 ⟨rfl, rfl⟩
  go_wp2_with fail
  refine (SY.out _).mono ?_
  rintro e w16 ⟨rfl, rfl⟩
  go_wp2_with fail
  refine (SY.out _).mono ?_
  rintro e w17 ⟨rfl, rfl⟩
  go_wp2_with fail
  refine (SZ.out _).mono ?_
  rintro e w18 ⟨rfl, rfl⟩
  go_wp2_with fail
  go_ret
  exact ⟨rfl, hb1⟩
theorem mul_sg {u v : Int} (h : -1000 ≤ v ∧ v ≤ 1000) : IntKind.i64.wrap (sgnI u * absI v) = sgnI u * absI v := by
 have := absI_bd h
 refine IntWalk.i64_in _ ?_
 unfold sgnI
 split <;> omega
theorem btTurned_any (a : Option Addr) (c : Nat) (x y z : Int) (m : Value) (w : World) (hS : Ints w a c [x, y, z]) (hx : x ≠ 0) (hy : -1000 ≤ y ∧ y ≤ 1000 ∧ y ≠ 0) (hz : z ≠ 0) (kd : ByteArray) (p q : Int) (hm : m = .agg #[.string kd, .int .i64 p, .int .i64 q]) : Calls Tryz.prog 114 #[.slice a 3 c, m] w fun r w' => ∃ H c, r = .returned (.slice (some ⟨H, 0, none⟩) 3 c) ∧ OwnI w.heap.size w' (.slice (some ⟨H, 0, none⟩) 3 c) (turnL x y z) ∧ Below w.heap.size w w' := by
 subst hm
 have m1 := mul_sg (u := z) ⟨hy.1, hy.2.1⟩
 have m2 := mul_sg (u := x) ⟨hy.1, hy.2.1⟩
 have HL := hid (show ([x, y, z] : List Int).length = 3 from rfl)
 have e0 : atD (0 : Int) [x, y, z] (0 : Int) = x := rfl
 have e1 : atD (0 : Int) [x, y, z] (1 : Int) = y := rfl
 have e2 : atD (0 : Int) [x, y, z] (2 : Int) = z := rfl
 have CY := hid (babs_any y · (by omega) (by omega))
 have SX := hid (bsign_any x · hx); have SY := hid (bsign_any y · hy.2.2); have SZ := hid (bsign_any z · hz)
 have hb0 := bal (Below.refl w.heap.size w) (.cells #[.string kd, .int .i64 p, .int .i64 q] 84)
 have hS1 := hS.below hb0
 unfold turnL
 obtain ⟨ay, hay⟩ : ∃ v, v = absI y := ⟨_, rfl⟩
 obtain ⟨sx, hsx⟩ : ∃ v, v = sgnI x := ⟨_, rfl⟩
 obtain ⟨sy, hsy⟩ : ∃ v, v = sgnI y := ⟨_, rfl⟩
 obtain ⟨sz, hsz⟩ : ∃ v, v = sgnI z := ⟨_, rfl⟩
 rw [← hay] at CY m1 m2
 rw [← hsx] at SX m2
 rw [← hsy] at SY
 rw [← hsz] at SZ m1
 rw [← hay, ← hsx, ← hsy, ← hsz]
 clear hay hsx hsy hsz hx hy hz hS
 by_cases hxy : sx = sy
 ·rw [if_pos hxy]
  have b2 : (sx == sy) = true := by simp [hxy]
  clear hxy
  go_enter Tryz.func114, Tryz.ntmps114
  go_wp2_with fail
  refine wp_region_q kR kR ?_
  repeat (first | (((with_reducible refine wpB_idx2 0 E_ints F_int cInt1 wU (HL.out) wU (hS1) oD oD (fun _ => wU) (fun _ => ?_)); (try simp only [Act.put, pA, pB, pC]); (try simp only [cInt])); first | rw [e0] | rw [e1] | rw [e2]) |  ((with_reducible refine wpB_load (by first | exact F_int | fail) wU wU (by assumption) wU ?_); (try simp only [Act.put, pA, pB, pC])) | ((with_reducible refine wpB_loadS (n := 2) (us := #[_, _]) (by fail) kR wU wU (by assumption) wU wU ?_); (try simp only [Act.put, pA, pB, pC])) | ((with_reducible refine wpB_loadS (n := 4) (us := #[_, _, _, _]) (by fail) kR wU wU (by assumption) wU wU ?_); (try simp only [Act.put, pA, pB, pC])) | ((refine wpQ_oneG ?_ wU (fun w' => ?_) ?_); rotate_left; (go_simp; rfl); (try simp only [Act.put, pA, pB, pC])))
  refine wpQuiet_nil ?_
  intro w1 hb1
  go_wp2_with fail
  refine (SX.out _).mono ?_
  rintro e w10 ⟨rfl, rfl⟩
  go_wp2_with fail
  refine (SY.out _).mono ?_
  rintro e w11 ⟨rfl, rfl⟩
  go_wp2_with fail
  refine (SZ.out _).mono ?_
  rintro e w12 ⟨rfl, rfl⟩
  go_wp2_with fail
  refine (CY.out _).mono ?_
  rintro e w13 ⟨rfl, rfl⟩
  go_wp2_with fail
  go_ret
  exact ⟨_, _, rfl, own_newN cIntS [sz * ay, x, y] 3 rfl (by decide) _ (by first | rfl | exact Array.size_push ..) (bnext hb0 hb1).size (by first | rfl | rw [m1]; rfl), bal (bnext hb0 hb1) _⟩
 ·rw [if_neg hxy]
  have b2 : (sx == sy) = false := beq_eq_false_iff_ne.2 hxy
  clear hxy
  go_enter Tryz.func114, Tryz.ntmps114
  go_wp2_with fail
  refine wp_region_q kR kR ?_
  repeat (first | (((with_reducible refine wpB_idx2 0 E_ints F_int cInt1 wU (HL.out) wU (hS1) oD oD (fun _ => wU) (fun _ => ?_)); (try simp only [Act.put, pA, pB, pC]); (try simp only [cInt])); first | rw [e0] | rw [e1] | rw [e2]) |  ((with_reducible refine wpB_load (by first | exact F_int | fail) wU wU (by assumption) wU ?_); (try simp only [Act.put, pA, pB, pC])) | ((with_reducible refine wpB_loadS (n := 2) (us := #[_, _]) (by fail) kR wU wU (by assumption) wU wU ?_); (try simp only [Act.put, pA, pB, pC])) | ((with_reducible refine wpB_loadS (n := 4) (us := #[_, _, _, _]) (by fail) kR wU wU (by assumption) wU wU ?_); (try simp only [Act.put, pA, pB, pC])) | ((refine wpQ_oneG ?_ wU (fun w' => ?_) ?_); rotate_left; (go_simp; rfl); (try simp only [Act.put, pA, pB, pC])))
  refine wpQuiet_nil ?_
  intro w1 hb1
  go_wp2_with fail
  refine (SX.out _).mono ?_
  rintro e w10 ⟨rfl, rfl⟩
  go_wp2_with fail
  refine (SY.out _).mono ?_
  rintro e w11 ⟨rfl, rfl⟩
  go_wp2_with fail
  refine (SX.out _).mono ?_
  rintro e w12 ⟨rfl, rfl⟩
  go_wp2_with fail
  refine (CY.out _).mono ?_
  rintro e w13 ⟨rfl, rfl⟩
  go_wp2_with fail
  go_ret
  exact ⟨_, _, rfl, own_newN cIntS [y, z, sx * ay] 3 rfl (by decide) _ (by first | rfl | exact Array.size_push ..) (bnext hb0 hb1).size (by first | rfl | rw [m2]; rfl), bal (bnext hb0 hb1) _⟩
end Go.Proofs.YtdeoogbiipodmaaGreat

namespace Go.Proofs.YtdeoogbiipodmaaGreat
open Go.RowKit
set_option maxHeartbeats 8000000
set_option maxRecDepth 100000
theorem SL.putO {B : Nat} {w0 w : World} {L : List Pc} {k : Nat} {o : Obj} (h : SL B w0 w L) (i : Nat) (hi : L[i]? = some (pBlk k o)) (o' : Obj) : SL B w0 (w.putObj k o') (L.set i (pBlk k o')) := by
 obtain ⟨b, ⟨rfl, h1⟩, h3, h4⟩ := h.upd i hi
 exact h4 _ _ (some k) (grownBy_putObj' _ _ _) ⟨rfl, World.putObj_heap_same (Array.getElem?_eq_some_iff.1 h1).1⟩ (.inl rfl)
def fnV (f : Nat) : Value := .func (.func f) #[] #[]
def kIns : ByteArray := ⟨#[105, 110, 115, 101, 114, 116]⟩
def kCan : ByteArray := ⟨#[99, 97, 110, 99, 101, 108]⟩
def kSwp : ByteArray := ⟨#[115, 119, 97, 112]⟩
def kTur : ByteArray := ⟨#[116, 117, 114, 110]⟩
def kV (n f g : Nat) : Value := .agg #[.int .i64 n, fnV f, fnV g]
def e1K : MapEntry := ⟨.string kIns, kV 0 107 108, 0⟩
def e2K : MapEntry := ⟨.string kCan, kV 2 109 110, 1⟩
def e3K : MapEntry := ⟨.string kSwp, kV 2 111 112, 2⟩
def e4K : MapEntry := ⟨.string kTur, kV 3 113 114, 3⟩
def mapK : Obj := .map #[e1K, e2K, e3K, e4K] 4
theorem rgetO {P : Program} {w : World} {k c : Nat} {es : Array MapEntry} (h : w.heap[k]? = some (.map es c)) : (getObj k).run P w = .ok (.map es c) w := by simp [getObj, Sem.run, h]
theorem rsetO {P : Program} {w : World} {k c : Nat} {es : Array MapEntry} (o' : Obj) (h : w.heap[k]? = some (.map es c)) : (setObj k o').run P w = .ok () (w.putObj k o') := by simp [setObj, Sem.run, h, World.putObj]
theorem underS : Tryz.prog.underlying 9 = some .string := Tryz.underlying9
theorem ckS (em : Bool) (n : Nat) (s : ByteArray) (w : World) : (Instr.checkKey em (n + 1) 9 (.string s)).run Tryz.prog w = .ok () w := by
 unfold Instr.checkKey
 simp [run_underlying underS]
section
variable {ops : Array Oper} {rest : List Oper} {a : Act} {Q : Exit → Act → World → Prop} {d : Option Tmp} {ty : TypeId} {p : String} {m x y : Operand} {af : Array Edge} {k c B : Nat} {s : ByteArray} {w0 w : World} {L : List Pc}
theorem wpList_mapPut {es : Array MapEntry} {v : Value} (i : Nat) (hm : a.eval m = .map (some k)) (hx : a.eval x = .string s) (hy : a.eval y = v) (hS : SL B w0 w L) (hi : L[i]? = some (pBlk k (.map es c))) (hf : Instr.findNow .string (.string s) es.toList 0 = some none)
  (hK : ∀ w', SL B w0 w' (L.set i (pBlk k (.map (es.push ⟨.string s, v, c⟩) (c + 1)))) → wpList Tryz.prog ops Q rest (a.put d undef) w') :
  wpList Tryz.prog ops Q (⟨d, .insert 142 m x y, ty, p, af, none⟩ :: rest) a w := by
 have hb := (hS.blk i hi).1
 have hck : (Instr.checkKey false 10000 9 (.string s)).run Tryz.prog w = .ok () w := ckS false 9999 s w
 have hrun : (Instr.mapUpdate 142 (.map (some k)) (.string s) v).run Tryz.prog w = .ok () (w.putObj k (.map (es.push ⟨.string s, v, c⟩) (c + 1))) := by
  unfold Instr.mapUpdate
  simp [run_underlying Tryz.underlying142, rgetO hb, hck, Instr.findKey, run_underlying underS, hf, rsetO _ hb]
 refine wpList_plain rfl fun K hK' => ?_
 unfold Oper.wp
 simp [execOp, hm, hx, hy, hrun, Result.andThen]
 exact hK' _ _ (hK _ (hS.putO i hi _))
end
theorem kinds_any (w : World) : Calls Tryz.prog 101 #[] w fun r w' => ∃ k, r = .returned (.map (some k)) ∧ w'.heap[k]? = some mapK ∧ w.heap.size ≤ k ∧ Below w.heap.size w w' := by
 have hS0 := (SL.nil w).box (.map #[] 0)
 have hmm := @run_makeMap Tryz.prog
 go_enter Tryz.func101, Tryz.ntmps101
 go_wp2_with (first | ((with_reducible refine wpList_mapPut 0 wU wU wU hS3 rfl wU ?_); intro w4 hS4; simp only [List.set_cons_zero] at hS4) | ((with_reducible refine wpList_mapPut 0 wU wU wU hS2 rfl wU ?_); intro w3 hS3; simp only [List.set_cons_zero] at hS3) | ((with_reducible refine wpList_mapPut 0 wU wU wU hS1 rfl wU ?_); intro w2 hS2; simp only [List.set_cons_zero] at hS2) | ((with_reducible refine wpList_mapPut 0 wU wU wU hS0 rfl wU ?_); intro w1 hS1; simp only [List.set_cons_zero] at hS1))
 go_ret
 have q := hS4.blk 0 rfl
 exact ⟨_, rfl, q.1, Nat.le_refl _, hS4.b⟩
end Go.Proofs.YtdeoogbiipodmaaGreat
