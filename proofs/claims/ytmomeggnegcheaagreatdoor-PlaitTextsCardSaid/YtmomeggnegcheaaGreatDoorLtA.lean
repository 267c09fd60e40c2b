/- Plain facts on a row's crossings, and the laws for a map of two entries that a region fills in an order of its own and ranges over. Conditions: keys fit an int and differ. Contract: Alternates. Conditions: the word readable, sizes as stated. -/
import Derived.Test.YtmomeggnegcheaaGreatDoorRlA
import Derived.Test.YtmomeggnegcheaaGreatDoorSmA
import Derived.Test.YtmomeggnegcheaaGreatDoorRoA
import Derived.Maps.RangeWalk
set_option linter.all false
/- Plain facts on a row's crossings, and the laws for a map of two entries that a region fills in an order of its own and ranges over. Conditions: keys fit an int and differ. -/
namespace Go.Proofs.YtmomeggnegcheaaGreatDoor
open Go.RowKit Go.Maps
set_option maxRecDepth 100000

def pairsOk (m : Int) (cr : List (Int × Int)) : Prop := ∀ p ∈ cr, 1 ≤ p.1 ∧ p.1 ≤ m ∧ 1 ≤ p.2 ∧ p.2 ≤ m ∧ p.1 ≠ p.2
def injS (m : Int) (st : List Int) : Prop := (∀ (i j : Nat) (hi : i < st.length) (hj : j < st.length), st[i] = st[j] → i = j) ∧ ∀ (i : Nat) (hi : i < st.length), 1 ≤ st[i] ∧ st[i] ≤ m
theorem atD_get {st : List Int} {k : Int} {b : Nat} (h : k = b) (hb : b < st.length) : atD 0 st k = st[b] := by
  subst h; simp [atD, hb]
theorem injS_swap {m : Int} {st : List Int} (h : injS m st) {k : Int} (h1 : 1 ≤ k) (h2 : k < st.length) : injS m (swapL st k) := by
  obtain ⟨b, hb⟩ : ∃ b : Nat, b = k.toNat := ⟨_, rfl⟩
  obtain ⟨a, ha⟩ : ∃ a : Nat, a = (k - 1).toNat := ⟨_, rfl⟩
  have ea : atD 0 st (k - 1) = st[a]'(by omega) := by
    exact atD_get (by omega) _
  have eb : atD 0 st k = st[b]'(by omega) := by
    exact atD_get (by omega) _
  have e : swapL st k = (st.set a (st[b]'(by omega))).set b (st[a]'(by omega)) := by unfold swapL; rw [ea, eb, ← ha, ← hb]
  rw [e]
  have hab : a ≠ b := by omega
  refine ⟨fun i j hi hj he => ?_, fun i hi => ?_⟩
  · simp only [List.length_set] at hi hj
    simp only [List.getElem_set] at he
    split at he <;> split at he <;> (try split at he) <;> (try split at he) <;> first
      | omega
      | (have := h.1 _ _ _ _ he; omega)
  · simp only [List.length_set] at hi
    simp only [List.getElem_set]
    split
    · exact h.2 _ _
    · split
      · exact h.2 _ _
      · exact h.2 _ _
theorem crossOf_ok {m : Int} {st : List Int} (h : injS m st) {x : Int} (h1 : 1 ≤ absI x) (h2 : absI x < st.length) : 1 ≤ (crossOf st x).1 ∧ (crossOf st x).1 ≤ m ∧ 1 ≤ (crossOf st x).2 ∧ (crossOf st x).2 ≤ m ∧ (crossOf st x).1 ≠ (crossOf st x).2 := by
  obtain ⟨k, hk⟩ : ∃ k, k = absI x := ⟨_, rfl⟩
  rw [← hk] at h1 h2
  obtain ⟨b, hb⟩ : ∃ b : Nat, b = k.toNat := ⟨_, rfl⟩
  obtain ⟨a, ha⟩ : ∃ a : Nat, a = (k - 1).toNat := ⟨_, rfl⟩
  have ea : atD 0 st (k - 1) = st[a]'(by omega) := by
    exact atD_get (by omega) _
  have eb : atD 0 st k = st[b]'(by omega) := by
    exact atD_get (by omega) _
  have := h.2 a (by omega)
  have := h.2 b (by omega)
  have hne : st[a]'(by omega) ≠ st[b]'(by omega) := fun e => by have := h.1 _ _ _ _ e; omega
  unfold crossOf
  rw [← hk]
  split
  · simp only [ea, eb]; exact ⟨by omega, by omega, by omega, by omega, fun e => hne e.symm⟩
  · simp only [ea, eb]; exact ⟨by omega, by omega, by omega, by omega, hne⟩
theorem rowGo_ok {m : Int} {n : Nat} : ∀ (ws : List Int) (st : List Int) (cr : List (Int × Int)), (∀ x ∈ ws, 1 ≤ absI x ∧ absI x < n) → st.length = n → injS m st → pairsOk m cr → pairsOk m (rowGo st cr ws).2
  | [], _, _, _, _, _, h => h
  | x :: r, st, cr, hf, hl, hi, hc => by
    rw [rowGo]
    have hx := hf x (by simp)
    refine rowGo_ok r _ _ (fun y hy => hf y (by simp [hy])) (by rw [swapL_len, hl]) (injS_swap hi hx.1 (by omega)) ?_
    intro p hp
    rcases List.mem_append.1 hp with h | h
    · exact hc p h
    · rw [List.mem_singleton] at h
      subst h
      exact crossOf_ok hi hx.1 (by omega)
theorem injS_start (n : Nat) : injS n (startL n) := by
  constructor
  · intro i j hi hj h
    simp [startL] at h
    omega
  · intro i hi
    simp [startL] at hi ⊢
    omega
theorem crossL_ok (n : Int) (ws : List Int) : pairsOk n (crossL n ws) := by
  unfold crossL
  split
  · next h =>
    have h1 := wordE_fits h
    have hf := wordE_fitsW h
    have : ((n.toNat : Nat) : Int) = n := by omega
    rw [← this]
    simp only [Int.toNat_natCast]
    exact rowGo_ok ws _ _ (fun x hx => (hf x hx).2.2) (startL_len _) (injS_start _) (fun p hp => by cases hp)
  · exact fun p hp => by cases hp

theorem rowGo_cl : ∀ (ws st : List Int) (cr : List (Int × Int)), (rowGo st cr ws).2.length = cr.length + ws.length
  | [], _, cr => by simp [rowGo]
  | x :: r, st, cr => by rw [rowGo, rowGo_cl r]; simp; omega
theorem crossL_len (n : Int) (ws : List Int) : (crossL n ws).length ≤ 200 := by
  unfold crossL
  split
  · next h =>
    have := (wordE_fits h).2.2.1
    rw [rowL, rowGo_cl]; simpa using this
  · simp
/-- what Alternates keeps. -/
def minZ (a s : Int) : Int := if a = 0 ∨ s < a then s else a
def altLeast (f : Int → Int) (least : Int) (p : Int × Int) : Int := (fun l => if f p.2 = -1 then minZ l p.2 else l) (if f p.1 = 1 then minZ least p.1 else least)
def altLast (f : Int → Int) (p : Int × Int) : Int → Int := fun s => if s = p.1 then 1 else if s = p.2 then -1 else f s
def altGo : (Int → Int) → Int → List (Int × Int) → Int
  | _, least, [] => least
  | f, least, p :: r => altGo (altLast f p) (altLeast f least p) r

def lastAt (f : Int → Int) (o u : Int) (lo lu : Bool) : Int → Int := fun s => if s = o ∧ lo = false then 1 else if s = u ∧ lu = false then -1 else f s
def leastAt (f : Int → Int) (least o u : Int) (lo lu : Bool) : Int := (fun l => if lu = false ∧ f u = -1 then minZ l u else l) (if lo = false ∧ f o = 1 then minZ least o else least)
theorem lastAt_start (f : Int → Int) (o u : Int) : lastAt f o u true true = f := by funext s; simp [lastAt]
theorem leastAt_start (f : Int → Int) (least o u : Int) : leastAt f least o u true true = least := by simp [leastAt]
theorem lastAt_end (f : Int → Int) (o u : Int) : lastAt f o u false false = altLast f (o, u) := by funext s; simp [lastAt, altLast]
theorem leastAt_end (f : Int → Int) (least o u : Int) : leastAt f least o u false false = altLeast f least (o, u) := by simp [leastAt, altLeast]
theorem alt_step {f : Int → Int} {least o u x c : Int} {lo lu : Bool} (hne : o ≠ u) (ho : 1 ≤ o) (hu : 1 ≤ u) (h : x = o ∧ c = 1 ∧ lo = true ∨ x = u ∧ c = -1 ∧ lu = true) :
   (fun s => if s = x then c else lastAt f o u lo lu s) = lastAt f o u (lo && !decide (o = x)) (lu && !decide (u = x)) ∧
   (if lastAt f o u lo lu x = c then minZ (leastAt f least o u lo lu) x else leastAt f least o u lo lu) = leastAt f least o u (lo && !decide (o = x)) (lu && !decide (u = x)) := by
  have hne' : u ≠ o := fun e => hne e.symm
  rcases h with ⟨rfl, rfl, rfl⟩ | ⟨rfl, rfl, rfl⟩
  · refine ⟨?_, ?_⟩
    · funext s
      by_cases e1 : s = x
      · simp [lastAt, e1]
      · simp [lastAt, e1, hne']
    · cases lu <;> by_cases e1 : f x = 1 <;> by_cases e2 : f u = -1 <;> simp [lastAt, leastAt, hne', hne, e1, e2] <;> (unfold minZ; split <;> split <;> (try split) <;> (try split) <;> omega)
  · refine ⟨?_, ?_⟩
    · funext s
      by_cases e1 : s = x
      · simp [lastAt, e1, hne']
      · simp [lastAt, e1, hne]
    · cases lo <;> by_cases e1 : f o = 1 <;> by_cases e2 : f x = -1 <;> simp [lastAt, leastAt, hne', hne, e1, e2]
/-- a map of two entries. -/
def TwoM (w : World) (b n : Nat) (o u : Int) : Prop :=
  ∃ D : DataW Unit, w.ownsMap Tryz.prog 3 (plainElem Tryz.prog 3) b n D ∧ (∀ k z, (D.atKey (.int .i64 k) z) = if k = o then .lit (.int .i64 1) else if k = u then .lit (.int .i64 (-1)) else z) ∧ ∀ k, has D (.int .i64 k) = (decide (k = o) || decide (k = u))
section
variable {P : Program} {ops : Array Oper} {Q : Exit → Act → World → Prop} {md : Region.Mode} {C : World → Prop}
theorem wpAnyC_on {fuel : Nat} {listed : Array Bool} {a : Act} {w : World} (is : List Nat) (hr : Region.ready md ops listed = is) (hne : is ≠ []) (h : ∀ i ∈ is, wpOp P ops Q i (fun a' w' => C w' ∧ wpAnyC P md ops C Q fuel (listed.setIfInBounds i true) a' w') a w) : wpAnyC P md ops C Q (fuel + 1) listed a w :=
  ⟨fun h => absurd (hr ▸ h) hne, fun i hi => h i (hr ▸ hi)⟩
theorem wpOp_value {i : Nat} {o : Oper} {v : Value} {a : Act} {w w' : World} (hi : ops[i]? = some o) (hw : Region.wanted o (yielded ops a.tmps) = true) (hrun : (execOp a.eval o).run P w = .ok (.value v) w') {K : Act → World → Prop} (h : K (a.put o.dst v) w') : wpOp P ops Q i K a w := by
  unfold wpOp
  simp only [hi, hw, if_true, Oper.wp, hrun, Oper.upon]
  exact .inl h
theorem wpOp_ins {i : Nat} {d : Option Tmp} {m x y : Operand} {ty : TypeId} {p : String} {af : Array Edge} {b n : Nat} {k v : Int} {a : Act} {w : World} {D : DataW Unit} (hi : ops[i]? = some ⟨d, .insert 50 m x y, ty, p, af, none⟩)
   (hm : a.eval m = .map (some b)) (hx : a.eval x = .int .i64 k) (hy : a.eval y = .int .i64 v) (h : w.ownsMap Tryz.prog 3 (plainElem Tryz.prog 3) b n D) (hk : InI k) (hv : InI v) (hn : n < maxLen) {K : Act → World → Prop}
   (hK : ∀ w', w'.ownsMap Tryz.prog 3 (plainElem Tryz.prog 3) b (n + 1) (D.put (.int .i64 k) (.lit (.int .i64 v))) → w.grownBy w' (some b) → K (a.put d undef) w') : wpOp Tryz.prog ops Q i K a w := by
  obtain ⟨w', hrun, ho, hg⟩ := h.update keyI Tryz.underlying50 hn (keyOfI hk) (plainElem_int Tryz.underlying3 hv.wf)
  unfold wpOp
  simp only [hi]
  have hw : Region.wanted (⟨d, .insert 50 m x y, ty, p, af, none⟩ : Oper) (yielded ops a.tmps) = true := rfl
  rw [if_pos hw]
  refine .inl ?_
  unfold Oper.wp
  simp [execOp, hm, hx, hy, hrun, Result.andThen]
  exact hK _ ho hg
end
theorem noPanic_normal {Q : Exit → Act → World → Prop} {a : Act} {w : World} : NoPanic Q .normal a w = Q .normal a w := rfl
theorem of_wpList_nil {P : Program} {ops : Array Oper} {Q : Exit → Act → World → Prop} {a : Act} {w : World} (h : wpList P ops Q [] a w) : Q .normal a w := h
theorem MapI.le {w : World} {b n n' : Nat} {f : Int → Int} (h : MapI w b n f) (hn : n ≤ n') : MapI w b n' f := by
  obtain ⟨D, h1, h2⟩ := h; exact ⟨D, h1.mono hn, h2⟩
theorem alt_drop {f : Int → Int} {least o u : Int} {cr : List (Int × Int)} {k : Nat} (hk : k < cr.length) (h : atD (0, 0) cr k = (o, u)) : altGo f least (cr.drop k) = altGo (lastAt f o u false false) (leastAt f least o u false false) (cr.drop (k + 1)) := by
  have e2 : atD (0, 0) cr k = cr[k] := by simp [atD, hk]
  rw [List.drop_eq_getElem_cons hk, altGo, ← e2, h, lastAt_end, leastAt_end]
theorem yieldsC_load {P : Program} {ops : Array Oper} {w : World} {d : Tmp} {e : TypeId} {s : Operand} {ty : TypeId} {p : String} {af : Array Edge} {g : Option (Nat × Bool)} {a : Act} {b o : Nat} {cs : Array Value} {T : TypeId} {fr : Nat × Nat} {v : Value} (hF : Flat P e)
   (hb : w.heap[b]? = some (.cells cs T fr)) (hv : cs[o]? = some v) (hs : a.eval s = .pointer (some ⟨b, o, none⟩)) (hg : Region.wanted (⟨some d, .load e s, ty, p, af, g⟩ : Oper) (yielded ops a.tmps) = true) : YieldsC P ops (Below w.heap.size w) ⟨some d, .load e s, ty, p, af, g⟩ v a := by
  refine .inl ⟨hg, fun w' hw' => ?_⟩
  have hc : w'.cell? ⟨b, o, none⟩ = some v := by simp [World.cell?, hw'.block b (Array.getElem?_eq_some_iff.1 hb).1, hb, hv]
  simp [execOp, hs, run_loadAt_cell w' hF hc, Result.andThen]
theorem bothK {K : World → Prop} {F : World → Prop} {p q : Prop} (h : (∀ V, F V → K V) → p ∧ q) (k : ∀ V, F V → K V) : p ∧ q := h k
theorem two_of {w : World} {b n : Nat} {o u : Int} {D : DataW Unit} (hne : o ≠ u) (ho : InI o) (hu : InI u) (hD : D = ((DataW.map []).put (.int .i64 o) (.lit (.int .i64 1))).put (.int .i64 u) (.lit (.int .i64 (-1))) ∨ D = ((DataW.map []).put (.int .i64 u) (.lit (.int .i64 (-1)))).put (.int .i64 o) (.lit (.int .i64 1)))
   (h : w.ownsMap Tryz.prog 3 (plainElem Tryz.prog 3) b n D) : TwoM w b n o u := by
  have ko := keyI.key (keyOfI ho)
  have ku := keyI.key (keyOfI hu)
  have m0 : IsMap (DataW.map [] : DataW Unit) := ⟨_, rfl⟩
  have m1 := fun (k : Int) (v : Int) => (⟨_, rfl⟩ : IsMap ((DataW.map [] : DataW Unit).put (.int .i64 k) (.lit (.int .i64 v))))
  have hn : ∀ {k k' : Int}, k' ≠ k → Lit.int .i64 k' ≠ Lit.int .i64 k := fun h e => h (by simpa using e)
  refine ⟨D, h, fun k z => ?_, fun k => ?_⟩
  · rcases hD with rfl | rfl
    · by_cases e1 : k = o
      · subst e1
        rw [atKey_put_other (hn hne), atKey_put_same m0 ko, if_pos rfl]
      · by_cases e2 : k = u
        · subst e2
          rw [atKey_put_same (m1 _ _) ku, if_neg e1, if_pos rfl]
        · rw [atKey_put_other (hn e2), atKey_put_other (hn e1), if_neg e1, if_neg e2]; rfl
    · by_cases e1 : k = o
      · subst e1
        rw [atKey_put_same (m1 _ _) ko, if_pos rfl]
      · by_cases e2 : k = u
        · subst e2
          rw [atKey_put_other (hn e1), atKey_put_same m0 ku, if_neg e1, if_pos rfl]
        · rw [atKey_put_other (hn e1), atKey_put_other (hn e2), if_neg e1, if_neg e2]; rfl
  · rcases hD with rfl | rfl
    · by_cases e1 : k = o
      · subst e1
        rw [has_put_other (hn hne), has_put_same m0 ko]; simp
      · by_cases e2 : k = u
        · subst e2
          rw [has_put_same (m1 _ _) ku]; simp
        · rw [has_put_other (hn e2), has_put_other (hn e1)]; simp [e1, e2]; rfl
    · by_cases e1 : k = o
      · subst e1
        rw [has_put_same (m1 _ _) ko]; simp
      · by_cases e2 : k = u
        · subst e2
          rw [has_put_other (hn e1), has_put_same m0 ku]; simp
        · rw [has_put_other (hn e1), has_put_other (hn e2)]; simp [e1, e2]; rfl
end Go.Proofs.YtmomeggnegcheaaGreatDoor

/- Contract: Alternates. Conditions: the word readable, sizes as stated. -/
namespace Go.Proofs.YtmomeggnegcheaaGreatDoor
open Go.RowKit Go.Maps
set_option maxHeartbeats 1000000
set_option maxRecDepth 100000

theorem E_cross : ETy Tryz.prog 81 90 (.agg #[.int .i64 0, .int .i64 0]) 2 16 := ⟨Tryz.underlying81, by kernel_rfl, rfl, by decide⟩
theorem F_cross : Aggr Tryz.prog 90 := ⟨_, Tryz.underlying90, rfl⟩
def altB (n : Int) (ws : List Int) : Int := if wordE n ws = 0 then altGo (fun _ => 0) 0 (crossL n ws) else 0

theorem Alternates_any (n : Int) (a : Option Addr) (cap : Nat) (l : List Int) (w : World) (hS : Ints w a cap l) (hsm : l.length ≤ 1048576) :
    Calls Tryz.prog 43 #[.int .i64 n, .slice a l.length cap] w fun r w' => r = .returned (.tuple #[.int .i64 (altB n l), .int .i64 (wordE n l)]) ∧ Below w.heap.size w w' := by
  have hmm := @run_makeMap Tryz.prog
  have hC := Crosses_any n a cap l w hS hsm
  by_cases h : wordE n l = 0
  · have eB : altB n l = altGo (fun _ => 0) 0 (crossL n l) := if_pos h
    have hok := crossL_ok n l
    have hf := wordE_fits h
    have hn : n ≤ 12 := hf.2.1
    rw [eB, h]
    rw [h] at hC
    have hlen := crossL_len n l
    obtain ⟨cr, hcr⟩ : ∃ cr, cr = crossL n l := ⟨_, rfl⟩
    rw [← hcr] at hC hok hlen ⊢
    have HC := hid hC; clear hC h eB hf hcr
    go_enter Tryz.func43, Tryz.ntmps43
    go_wp2_with fail
    refine HC.out.mono ?_
    rintro e w1 ⟨a1, cap1, rfl, hP, _, hb1⟩
    have hcap := hP.le
    have hmx := hP.max
    go_wp2_with fail
    go_loopw [26, 9, 11, 12, 13] (fun i v9 _ _ _ wr => ∃ (k : Nat) (least : Int) (f : Int → Int), k ≤ cr.length ∧ i = .int .i64 k ∧ v9 = .int .i64 least ∧ altGo f least (cr.drop k) = altGo (fun _ => 0) 0 cr ∧ Below w1.heap.size w1 wr ∧ MapI wr w1.heap.size (2 * k) f) (fun i _ _ _ _ _ => cr.length - (intOf i).toNat)
    case atStart => exact ⟨0, 0, _, by omega, rfl, rfl, rfl, bal (Below.refl _ _) _, mapI_made w1⟩
    case round =>
      obtain ⟨k, least, f, hk, rfl, rfl, hgo, hbr, hmr⟩ := hrel
      have hPr := hP.below hbr
      by_cases hkl : k < cr.length
      · have hpk := hok (atD (0, 0) cr k) (by simp [atD, hkl])
        obtain ⟨o, u, hou⟩ : ∃ o u, atD (0, 0) cr k = (o, u) := ⟨_, _, rfl⟩
        rw [hou] at hpk
        simp only at hpk
        have HK := hid hpk; clear hpk
        have HOU := hid hou; clear hou
        have HGO := hid hgo; clear hgo
        go_wp2_with (with_reducible refine wpList_idxS _ (0, 0) E_cross F_cross cPair1 (by with_unfolding_all rfl) (by with_unfolding_all rfl) (hPr) (by first | omega | (simp; done)) (by first | omega | (simp; done)) (fun _ => by with_unfolding_all rfl) (fun _ => ?_)); (try simp only [cPair, HOU.out])
        have q := heap_alloc_new wr (.cells #[.int .i64 o, .int .i64 u] 90)
        have hmW := hmr.alloc (.cells #[.int .i64 o, .int .i64 u] 90)
        have hbW := bal hbr (.cells #[.int .i64 o, .int .i64 u] 90)
        have zB : wr.heap.size < (wr.alloc (.cells #[.int .i64 o, .int .i64 u] 90)).heap.size := by simp
        obtain ⟨W, hW⟩ : ∃ W, W = wr.alloc (.cells #[.int .i64 o, .int .i64 u] 90) := ⟨_, rfl⟩
        rw [← hW] at q hmW hbW zB
        simp only [← hW]
        clear hW
        refine wp_region_pure (C := Below W.heap.size W) [1, 2, 4, 5] [_, _, _, _] 5 (by simp only [List.map_cons, List.map_nil, List.getElem?_toArray]; rfl) rfl (by kernel_rfl) (by kernel_rfl) (by kernel_rfl) (Below.refl _ _).drew ?_
        refine ⟨.pointer (some ⟨wr.heap.size, 0, none⟩), .inl ⟨by with_unfolding_all rfl, fun w' _ => by go_simp⟩, ?_⟩
        go_frame
        refine ⟨.int .i64 o, yieldsC_load F_int q rfl (by with_unfolding_all rfl) (by with_unfolding_all rfl), ?_⟩
        go_frame
        refine ⟨.pointer (some ⟨wr.heap.size, 1, none⟩), .inl ⟨by with_unfolding_all rfl, fun w' _ => by go_simp⟩, ?_⟩
        go_frame
        refine ⟨.int .i64 u, yieldsC_load F_int q rfl (by with_unfolding_all rfl) (by with_unfolding_all rfl), ?_⟩
        go_frame
        unfold wpPure
        have zM := hmr.lt
        have hV0 : Below W.heap.size W { W with drawn := W.drawn + 1 } := (Below.refl _ _).drew
        obtain ⟨V, hV, hVz⟩ : ∃ V, V = { W with drawn := W.drawn + 1 } ∧ V.heap.size = W.heap.size := ⟨_, rfl, rfl⟩
        rw [← hV] at hV0
        rw [← hV]
        clear hV
        have hIo : InI o := by have := HK.out; unfold InI; omega
        have hIu : InI u := by have := HK.out; unfold InI; omega
        have hI1 : InI 1 := by unfold InI; omega
        have hI2 : InI (-1) := by unfold InI; omega
        refine wpAnyC_on [0] (by kernel_rfl) (by simp) ?_
        simp only [List.forall_mem_cons, List.not_mem_nil, false_implies, implies_true, and_true]
        refine wpOp_value (v := .map (some W.heap.size)) (w' := V.alloc (.map #[] 0)) (by rw [List.getElem?_toArray]; rfl) (by with_unfolding_all rfl) (by rw [← hVz]; simp [execOp, hmm, Result.andThen]) ?_
        refine ⟨hV0.alloc (by omega) _, ?_⟩
        go_frame
        have hm0 := World.ownsMap_made (H := Unit) V Tryz.prog 3 (plainElem Tryz.prog 3)
        rw [hVz] at hm0
        have hV1 : Below W.heap.size W (V.alloc (.map #[] 0)) := hV0.alloc (by omega) _
        obtain ⟨V1, hV1e, hz1⟩ : ∃ V1, V1 = V.alloc (.map #[] 0) ∧ V1.heap.size = W.heap.size + 1 := ⟨_, rfl, by simp [hVz]⟩
        rw [← hV1e] at hm0 hV1
        rw [← hV1e]
        clear hV1e
        refine wpAnyC_on [3, 6] (by kernel_rfl) (by simp) ?_
        simp only [List.forall_mem_cons, List.not_mem_nil, false_implies, implies_true, and_true]
        apply bothK (F := fun V => TwoM V W.heap.size 2 o u ∧ Below W.heap.size W V)
        case h =>
          intro key
          constructor
          · refine wpOp_ins (by rw [List.getElem?_toArray]; rfl) (by with_unfolding_all rfl) (by with_unfolding_all rfl) (by rfl) hm0 hIo hI1 (by decide) ?_
            intro V2 hm2 hg2
            have hV2 := hV1.grown hg2 (by omega) (fun k hk => by cases hk; exact Nat.le_refl _)
            have hz2 := hg2.size
            refine ⟨hV2, ?_⟩
            refine wpAnyC_on [6] (by kernel_rfl) (by simp) ?_
            simp only [List.forall_mem_cons, List.not_mem_nil, false_implies, implies_true, and_true]
            refine wpOp_ins (by rw [List.getElem?_toArray]; rfl) (by with_unfolding_all rfl) (by with_unfolding_all rfl) (by rfl) hm2 hIu hI2 (by decide) ?_
            intro V3 hm3 hg3
            have hV3 := hV2.grown hg3 (by omega) (fun k hk => by cases hk; exact Nat.le_refl _)
            exact ⟨hV3, key V3 ⟨two_of HK.out.2.2.2.2 hIo hIu (.inl rfl) hm3, hV3⟩⟩
          · refine wpOp_ins (by rw [List.getElem?_toArray]; rfl) (by with_unfolding_all rfl) (by with_unfolding_all rfl) (by rfl) hm0 hIu hI2 (by decide) ?_
            intro V2 hm2 hg2
            have hV2 := hV1.grown hg2 (by omega) (fun k hk => by cases hk; exact Nat.le_refl _)
            have hz2 := hg2.size
            refine ⟨hV2, ?_⟩
            refine wpAnyC_on [3] (by kernel_rfl) (by simp) ?_
            simp only [List.forall_mem_cons, List.not_mem_nil, false_implies, implies_true, and_true]
            refine wpOp_ins (by rw [List.getElem?_toArray]; rfl) (by with_unfolding_all rfl) (by with_unfolding_all rfl) (by rfl) hm2 hIo hI1 (by decide) ?_
            intro V3 hm3 hg3
            have hV3 := hV2.grown hg3 (by omega) (fun k hk => by cases hk; exact Nat.le_refl _)
            refine ⟨hV3, ?_⟩
            rw [Array.setIfInBounds_comm _ _ (by decide : (6 : Nat) ≠ 3)]
            exact key V3 ⟨two_of HK.out.2.2.2.2 hIo hIu (.inr rfl) hm3, hV3⟩
        case k =>
          rintro V3 ⟨⟨D, hown, hat, hhas⟩, hV3⟩
          refine wpAnyC_on [7] (by kernel_rfl) (by simp) ?_
          simp only [List.forall_mem_cons, List.not_mem_nil, false_implies, implies_true, and_true]
          refine wpOp_value (v := .map (some W.heap.size)) (w' := V3) (by rw [List.getElem?_toArray]; rfl) (by with_unfolding_all rfl) (by simp [execOp, Act.eval, Result.andThen]; rfl) ?_
          refine ⟨hV3, ?_⟩
          go_frame
          obtain ⟨V4, hrun, hrg, hg4, hs4⟩ := hown.range keyI Tryz.underlying50
          have hsz := hown.size_le
          have hV4 := hV3.grown hg4 hV3.size (fun k hk => by cases hk)
          have hm4 := hmW.below hV4
          have hb4 := bnext hbW hV4
          have z3 := hV3.size
          refine wpAnyC_on [8] (by kernel_rfl) (by simp) ?_
          simp only [List.forall_mem_cons, List.not_mem_nil, false_implies, implies_true, and_true]
          refine wpOp_value (v := .pointer (some ⟨V3.heap.size, 0, none⟩)) (w' := V4) (by rw [List.getElem?_toArray]; rfl) (by with_unfolding_all rfl) (by simp [execOp, Act.eval, hrun, Result.andThen]) ?_
          refine ⟨hV4, by kernel_rfl, ?_⟩
          go_frame
          rw [noPanic_normal]
          refine of_wpList_nil (P := Tryz.prog) (ops := #[]) ?_
          go_wp2_with fail
          have HAT0 := hid hat; clear hat
          have HHAS := hid hhas; clear hhas
          have hfm : ∀ (x c : Int), (∀ zd, D.atKey (.int .i64 x) zd = .lit (.int .i64 c)) → x = o ∧ c = 1 ∨ x = u ∧ c = -1 := by
            intro x c hx
            have h1 := (HAT0.out x (.lit (.bool true))).symm.trans (hx (.lit (.bool true)))
            split at h1
            · next e => cases h1; exact .inl ⟨e, rfl⟩
            · split at h1
              · next e => cases h1; exact .inr ⟨e, rfl⟩
              · cases h1
          have HF := hid hfm; clear hfm
          go_loopw [9, 12, 13] (fun v9 _ _ wq => ∃ (left : Lit → Bool) (cnt m : Nat) (nl : Int), wq.ranges Tryz.prog 3 (plainElem Tryz.prog 3) W.heap.size V3.heap.size 2 D left cnt ∧ v9 = .int .i64 nl ∧ nl = leastAt f least o u (left (.int .i64 o)) (left (.int .i64 u)) ∧ m + cnt ≤ 2 * k + 2 ∧ Below w1.heap.size w1 wq ∧ MapI wq w1.heap.size m (lastAt f o u (left (.int .i64 o)) (left (.int .i64 u)))) (fun _ _ _ wq => wq.rangeLeft W.heap.size V3.heap.size)
          case atStart =>
            refine ⟨_, _, 2 * k, least, hrg, rfl, ?_, by omega, hb4, ?_⟩
            · rw [HHAS.out, HHAS.out]; simp [leastAt_start]
            · rw [HHAS.out, HHAS.out]; simpa [lastAt_start] using hm4
          case round =>
            obtain ⟨left, cnt, m, nl, hrg, rfl, hnl, hmc, hbq, hmq⟩ := hrel
            have HNL := hid hnl; clear hnl
            go_wp2_with (first | (at_next; refine wpList_next_ranges_ii _ rfl _ rfl 3 3 .i64 .i64 keyI Tryz.underlying3 Tryz.underlying3 W.heap.size V3.heap.size 2 _ _ _ rfl hrg ?_ ?_))
            · intro hc0 hl0
              have HL0 := hid hl0; clear hl0
              go_wp2_with fail
              have e := alt_drop (f := f) (least := least) hkl HOU.out
              rw [HGO.out] at e
              have e2 := HNL.out
              rw [HL0.out, HL0.out] at e2 hmq
              rw [← e2] at e
              go_roundw
              case rel => exact ⟨k + 1, nl, _, by omega, by simp, rfl, e.symm, hbq, hmq.le (by omega)⟩
              case measure => simp [intOf]; omega
            · intro x c w2 cnt2 hwx hwc hlx hatx hrg2 hlt2 hg2 hs2 hen
              have hm2 := hmq.kept hg2 (by simp; omega)
              have hb2 := hbq.grown hg2 hbq.size (fun k hk => by cases hk; omega)
              have hxc := HF.out x c hatx
              clear hatx hwx hwc
              have hst := alt_step (f := f) (least := least) (lo := left (.int .i64 o)) (lu := left (.int .i64 u)) HK.out.2.2.2.2 HK.out.1 HK.out.2.2.1 (hxc.imp (fun ⟨h, h'⟩ => ⟨h, h', by rw [← h]; exact hlx⟩) (fun ⟨h, h'⟩ => ⟨h, h', by rw [← h]; exact hlx⟩))
              rw [← HNL.out] at hst
              obtain ⟨g, hg⟩ : ∃ g, g = lastAt f o u (left (.int .i64 o)) (left (.int .i64 u)) := ⟨_, rfl⟩
              rw [← hg] at hm2 hst
              have hL : ∀ y, ((fun z : Lit => left z && !z.sameKey (.int .i64 x)) (.int .i64 y)) = (left (.int .i64 y) && !decide (y = x)) := by intro y; simp [Lit.sameKey]
              rw [← hL, ← hL] at hst
              have HIX : Hid (InI x) := hid (by rcases hxc with ⟨rfl, _⟩ | ⟨rfl, _⟩ <;> assumption)
              have HIC : Hid (InI c) := hid (by rcases hxc with ⟨_, rfl⟩ | ⟨_, rfl⟩ <;> assumption)
              have FIN := hid (fun (nv : Int) (w3 : World) (h : nv = (if g x = c then minZ nl x else nl)) (hm3 : MapI w3 w1.heap.size (m + 1) (fun s => if s = x then c else g s)) (hg3 : w2.grownBy w3 (some w1.heap.size)) =>
                (⟨⟨_, cnt2, m + 1, nv, hrg2.kept hg3 (by simp; omega) (by simp; omega), rfl, h.trans hst.2, by omega, hb2.grown hg3 hb2.size (fun k hk => by cases hk; exact Nat.le_refl _), hst.1 ▸ hm3⟩, by rw [(hrg2.kept hg3 (by simp; omega) (by simp; omega)).left_eq, hrg.left_eq]; exact hlt2⟩ :
                (∃ (left : Lit → Bool) (cnt m : Nat) (nl : Int), w3.ranges Tryz.prog 3 (plainElem Tryz.prog 3) W.heap.size V3.heap.size 2 D left cnt ∧ Value.int .i64 nv = .int .i64 nl ∧ nl = leastAt f least o u (left (.int .i64 o)) (left (.int .i64 u)) ∧ m + cnt ≤ 2 * k + 2 ∧ Below w1.heap.size w1 w3 ∧ MapI w3 w1.heap.size m (lastAt f o u (left (.int .i64 o)) (left (.int .i64 u)))) ∧
                w3.rangeLeft W.heap.size V3.heap.size < wr.rangeLeft W.heap.size V3.heap.size))
              clear hg hst hL hxc hlx
              have hmx2 : m < maxLen := by unfold maxLen; omega
              by_cases h1 : g x = c
              · by_cases h2 : nl = 0
                · have hv : x = (if g x = c then minZ nl x else nl) := by simp [h1, h2, minZ]
                  have HV := hid hv; clear hv
                  go_wp2_with (first | (with_reducible refine wpList_lookI (by with_unfolding_all rfl) (by with_unfolding_all rfl) (hm2) (HIX.out) (by with_unfolding_all rfl) ?_) | ((with_reducible refine wpList_putI (by with_unfolding_all rfl) (by with_unfolding_all rfl) (by with_unfolding_all rfl) (hm2) (HIX.out) (HIC.out) (hmx2) ?_); intro w3 hm3 hg3))
                  have := FIN.out x w3 HV.out hm3 hg3
                  refine ⟨?_, this.2⟩
                  first
                    | (repeat apply Exists.intro); exact ⟨this.1, rfl⟩
                    | (obtain ⟨left', cnt', m', nl', a1, a2, a3, a4, a5, a6⟩ := this.1; cases a2; exact ⟨left', cnt', a1, a3, m', a4, a5, a6⟩)
                · by_cases h3 : x < nl
                  · have hv : x = (if g x = c then minZ nl x else nl) := by simp [h1, h3, minZ]
                    have HV := hid hv; clear hv
                    go_wp2_with (first | (with_reducible refine wpList_lookI (by with_unfolding_all rfl) (by with_unfolding_all rfl) (hm2) (HIX.out) (by with_unfolding_all rfl) ?_) | ((with_reducible refine wpList_putI (by with_unfolding_all rfl) (by with_unfolding_all rfl) (by with_unfolding_all rfl) (hm2) (HIX.out) (HIC.out) (hmx2) ?_); intro w3 hm3 hg3))
                    have := FIN.out x w3 HV.out hm3 hg3
                    refine ⟨?_, this.2⟩
                    first
                      | (repeat apply Exists.intro); exact ⟨this.1, rfl⟩
                      | (obtain ⟨left', cnt', m', nl', a1, a2, a3, a4, a5, a6⟩ := this.1; cases a2; exact ⟨left', cnt', a1, a3, m', a4, a5, a6⟩)
                  · have hv : nl = (if g x = c then minZ nl x else nl) := by simp [h1, h2, h3, minZ]
                    have HV := hid hv; clear hv
                    go_wp2_with (first | (with_reducible refine wpList_lookI (by with_unfolding_all rfl) (by with_unfolding_all rfl) (hm2) (HIX.out) (by with_unfolding_all rfl) ?_) | ((with_reducible refine wpList_putI (by with_unfolding_all rfl) (by with_unfolding_all rfl) (by with_unfolding_all rfl) (hm2) (HIX.out) (HIC.out) (hmx2) ?_); intro w3 hm3 hg3))
                    have := FIN.out nl w3 HV.out hm3 hg3
                    refine ⟨?_, this.2⟩
                    first
                      | (repeat apply Exists.intro); exact ⟨this.1, rfl⟩
                      | (obtain ⟨left', cnt', m', nl', a1, a2, a3, a4, a5, a6⟩ := this.1; cases a2; exact ⟨left', cnt', a1, a3, m', a4, a5, a6⟩)
              · have hv : nl = (if g x = c then minZ nl x else nl) := by simp [h1]
                have HV := hid hv; clear hv
                go_wp2_with (first | (with_reducible refine wpList_lookI (by with_unfolding_all rfl) (by with_unfolding_all rfl) (hm2) (HIX.out) (by with_unfolding_all rfl) ?_) | ((with_reducible refine wpList_putI (by with_unfolding_all rfl) (by with_unfolding_all rfl) (by with_unfolding_all rfl) (hm2) (HIX.out) (HIC.out) (hmx2) ?_); intro w3 hm3 hg3))
                have := FIN.out nl w3 HV.out hm3 hg3
                refine ⟨?_, this.2⟩
                first
                  | (repeat apply Exists.intro); exact ⟨this.1, rfl⟩
                  | (obtain ⟨left', cnt', m', nl', a1, a2, a3, a4, a5, a6⟩ := this.1; cases a2; exact ⟨left', cnt', a1, a3, m', a4, a5, a6⟩)
      · have e : k = cr.length := by omega
        have hv : least = altGo (fun _ => 0) 0 cr := by rw [← hgo, e, List.drop_length]; rfl
        have HV := hid hv; clear hv hgo e
        have hb2 := bnext hb1 hbr
        go_wp2_with fail
        go_ret2
        exact ⟨by rw [HV.out]; rfl, hb2⟩
  · have eB : altB n l = 0 := if_neg h
    have eC : crossL n l = [] := if_neg h
    rw [eC] at hC
    rw [eB]
    obtain ⟨q, hq⟩ : ∃ q, q = wordE n l := ⟨_, rfl⟩
    rw [← hq] at h hC ⊢
    have hne : (q != 0) = true := by simpa using h
    have HC := hid hC; clear hC eB eC hq
    go_enter Tryz.func43, Tryz.ntmps43
    go_wp2_with fail
    refine HC.out.mono ?_
    rintro e w1 ⟨a1, cap1, rfl, _, _, hb1⟩
    go_wp2_with fail
    go_ret2
    exact ⟨rfl, hb1⟩
end Go.Proofs.YtmomeggnegcheaaGreatDoor
