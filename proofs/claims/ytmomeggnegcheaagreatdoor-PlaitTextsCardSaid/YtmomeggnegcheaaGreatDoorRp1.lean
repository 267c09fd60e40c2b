/- Contract: slices.Repeat of ints. Conditions: the list and the count are not empty, sizes as stated. -/
import Derived.Test.YtmomeggnegcheaaGreatDoorLib1
import Derived.Test.YtmomeggnegcheaaGreatDoorTyA
import Derived.Laws.CopyOwn
import Derived.Deep.RegionLaw
import Derived.IntWalk
set_option linter.all false
namespace Go.Proofs.YtmomeggnegcheaaGreatDoor
open Go.RowKit
set_option maxHeartbeats 1000000
set_option maxRecDepth 100000

theorem mul_any (x y : Nat) (h : x * y < 18446744073709551616) (hx : x < 18446744073709551616) (hy : y < 18446744073709551616) (w : World) :
    Calls Tryz.prog 144 #[.int .u64 x, .int .u64 y] w fun e w' => e = .returned (.tuple #[.int .u64 0, .int .u64 ((x * y : Nat) : Int)]) ∧ w = w' := by
  refine (Tryz.bits_Mul x y hx hy w).mono ?_
  rintro e w' ⟨rfl, rfl⟩
  rw [Nat.div_eq_of_lt h, Nat.mod_eq_of_lt h]
  exact ⟨rfl, rfl⟩

/-- the first m numbers of a list that goes round and round. -/
def cyc (l : List Int) (m : Nat) : List Int := (List.range m).map fun j => l.getD (j % l.length) 0
theorem cyc_len (l : List Int) (m : Nat) : (cyc l m).length = m := by simp [cyc]
theorem cyc_add (l : List Int) (m k : Nat) (h : m % l.length = 0) : cyc l (m + k) = cyc l m ++ cyc l k := by
  unfold cyc
  rw [List.range_add, List.map_append, List.map_map]
  congr 1
  refine List.map_congr_left fun j _ => ?_
  show l.getD ((m + j) % l.length) 0 = _
  rw [Nat.add_mod, h, Nat.zero_add, Nat.mod_mod]
theorem cyc_take (l : List Int) {m k : Nat} (h : k ≤ m) : (cyc l m).take k = cyc l k := by
  unfold cyc; rw [← List.map_take, List.take_range, Nat.min_eq_left h]
theorem cyc_once (l : List Int) : cyc l l.length = l := by
  refine List.ext_getElem (by simp [cyc]) fun j h1 h2 => ?_
  simp [cyc, Nat.mod_eq_of_lt h2, h2]

/-- what is laid so far: a block of N numbers of which the first m are those of cyc. -/
def Laid (w : World) (g N m : Nat) (l : List Int) : Prop :=
  ∃ cur : List Value, w.heap[g]? = some (.cells cur.toArray 3 (0, 0)) ∧ cur.length = N ∧ cur.take m = (cyc l m).map cInt ∧ m ≤ N
theorem splice_laid {l : List Int} {cur : List Value} {N m k : Nat} (hl : cur.length = N) (ht : cur.take m = (cyc l m).map cInt) (hm : m + k ≤ N) (hd : m % l.length = 0) (cs : List Value) (hc : cs = (cyc l k).map cInt) :
    (splice cur m cs).length = N ∧ (splice cur m cs).take (m + k) = (cyc l (m + k)).map cInt := by
  subst hc
  have h1 : ((cyc l k).map cInt).length = k := by simp [cyc]
  refine ⟨by rw [length_splice _ _ _ (by rw [h1]; omega), hl], ?_⟩
  unfold splice
  rw [cyc_add l m k hd, List.map_append, ht, ← List.append_assoc]
  have h2 : ((cyc l m).map cInt ++ (cyc l k).map cInt).length = m + k := by simp [cyc]
  rw [List.take_append_of_le_length (by omega), List.take_of_length_le (by omega)]
theorem Laid.own {w : World} {g N : Nat} {l : List Int} {B : Nat} (h : Laid w g N N l) (hB : B ≤ g) (hN : N ≤ 1048576) : OwnI B w (.slice (some ⟨g, 0, none⟩) N N) (cyc l N) := by
  obtain ⟨cur, h1, h2, h3, _⟩ := h
  have e : ((cyc l N).flatMap fun x => (cInt x).cells.toList) = (cyc l N).map cInt := by
    generalize cyc l N = L
    induction L with
    | nil => rfl
    | cons x r ih => rw [List.flatMap_cons, ih]; rfl
  refine ⟨cIntS, ?_⟩
  rw [cyc_len, e, ← h3]
  refine ⟨by simp [h2], .inr ⟨g, N, cur.toArray, rfl, hB, h1, Nat.le_refl _, by unfold maxLen; omega, by simp [h2], by simp⟩⟩
theorem own_laid {w : World} {g N : Nat} {B : Nat} {l L : List Int} (h : OwnI B w (.slice (some ⟨g, 0, none⟩) N N) L) (hL : L.length = N) : Laid w g N 0 l := by
  rcases h.2.2 with ⟨h, _⟩ | ⟨g', cap, cur, hv, _, hg, _, _, hs, _⟩
  · cases h
  · cases hv
    exact ⟨cur.toList, by simpa using hg, by simpa using hs, by simp [cyc], Nat.zero_le _⟩
theorem Laid.cell {w : World} {g N m : Nat} {l : List Int} (h : Laid w g N m l) (j k : Nat) (hk : k ≤ m) (v : Value) (hv : ((cyc l k).map cInt)[j]? = some v) : w.cell? ((⟨g, 0, none⟩ : Addr).add j) = some v := by
  obtain ⟨cur, h1, h2, h3, h4⟩ := h
  rw [Addr.add_z, Nat.zero_add, cell_of_row _ _ _ _ _ _ h1]
  have hj : j < k := by
    have := (List.getElem?_eq_some_iff.1 hv).1
    simpa [cyc] using this
  rw [← cyc_take l hk, List.map_take, ← h3] at hv
  rw [List.getElem?_take, List.getElem?_take] at hv
  rw [if_pos hj, if_pos (by omega)] at hv
  simpa using hv

theorem wpList_copyL {ops : Array Oper} {rest : List Oper} {a : Act} {Q : Exit → Act → World → Prop} {d : Option Tmp} {ty : TypeId} {p : String} {x y : Operand} {af : Array Edge} {w w0 : World} {B g N m : Nat} {l : List Int} {dp sp : Option Addr} {dLen dCap sLen sCap : Nat} (k : Nat)
    (hd : a.eval x = .slice dp dLen dCap) (hs : a.eval y = .slice sp sLen sCap) (hL : Laid w g N m l) (hk : k = Nat.min sLen dLen) (hm : m + k ≤ N) (hmod : m % l.length = 0) (hdp : dp = some ⟨g, m, none⟩)
    (hsp : ∃ ad, sp = some ad ∧ ∀ j v, ((cyc l k).map cInt)[j]? = some v → w.cell? (ad.add j) = some v) (hb : Below B w0 w) (hBg : B ≤ g)
    (hK : ∀ w', Laid w' g N (m + k) l → Below B w0 w' → wpList Tryz.prog ops Q rest (a.put d (.int .i64 k)) w') :
    wpList Tryz.prog ops Q (⟨d, .call { callee := .builtin .copy, args := #[x, y], argTypes := #[22, 22] }, ty, p, af, none⟩ :: rest) a w := by
  obtain ⟨cur, h1, h2, h3, h4⟩ := hL
  have hlen : ((cyc l k).map cInt).length = k := by simp [cyc]
  refine wpList_copy_splice rfl x y 22 22 rfl 3 Tryz.underlying22 (by kernel_rfl) dp sp dLen dCap sLen sCap hd hs g m cur 3 h1 ((cyc l k).map cInt) (by rw [hlen, hk]) (fun _ => ⟨hdp, hsp⟩) (by rw [hlen, h2]; omega)
    (fun v hv => by obtain ⟨z, _, rfl⟩ := List.mem_map.1 hv; rfl) B w0 hb hBg (fun w' hw hbw => ?_)
  obtain ⟨s1, s2⟩ := splice_laid h2 h3 hm hmod _ rfl
  have := hK w' ⟨_, hw.out, s1, s2, hm⟩ hbw
  rw [hlen]
  exact this

theorem step_copyL {ops : Array Oper} {a : Act} {o : Oper} {K : Act → World → Prop} {Q : Exit → Act → World → Prop} {E : Prop} {w w0 : World} {B g N m : Nat} {l : List Int} (hgd : o.guard = none) (x y : Operand) (ho : o.op = .call { callee := .builtin .copy, args := #[x, y], argTypes := #[22, 22] })
    (dp sp : Option Addr) (dLen dCap sLen sCap : Nat) (k : Nat) (hd : a.eval x = .slice dp dLen dCap) (hs : a.eval y = .slice sp sLen sCap) (hL : Laid w g N m l) (hk : k = Nat.min sLen dLen) (hm : m + k ≤ N) (hmod : m % l.length = 0) (hdp : dp = some ⟨g, m, none⟩)
    (hsp : ∃ ad, sp = some ad ∧ ∀ j v, ((cyc l k).map cInt)[j]? = some v → w.cell? (ad.add j) = some v) (hb : Below B w0 w) (hBg : B ≤ g)
    (hK : ∀ w', Laid w' g N (m + k) l → Below B w0 w' → K (a.put o.dst (.int .i64 k)) w') :
    if Region.wanted o (yielded ops a.tmps) = true then Oper.wp Tryz.prog o a w K Q else E := by
  obtain ⟨cur, h1, h2, h3, h4⟩ := hL
  have hlen : ((cyc l k).map cInt).length = k := by simp [cyc]
  refine step_copy_splice hgd x y 22 22 ho 3 Tryz.underlying22 (by kernel_rfl) dp sp dLen dCap sLen sCap hd hs g m cur 3 h1 ((cyc l k).map cInt) (by rw [hlen, hk]) (fun _ => ⟨hdp, hsp⟩) (by rw [hlen, h2]; omega)
    (fun v hv => by obtain ⟨z, _, rfl⟩ := List.mem_map.1 hv; rfl) B w0 hb hBg (fun w' hw hbw => ?_)
  obtain ⟨s1, s2⟩ := splice_laid h2 h3 hm hmod _ rfl
  have := hK w' ⟨_, hw.out, s1, s2, hm⟩ hbw
  rw [hlen]
  exact this

theorem Repeat_any (a : Option Addr) (cap c : Nat) (l : List Int) (w : World) (hS : Ints w a cap l) (h0 : 0 < l.length) (hl : l.length ≤ 1000) (hc0 : 0 < c) (hc : c ≤ 1000) :
    Calls Tryz.prog 99 #[.slice a l.length cap, .int .i64 c] w fun r w' => ∃ v, r = .returned v ∧ OwnI w.heap.size w' v (cyc l (l.length * c)) ∧ Below w.heap.size w w' := by
  have hcap := hS.le
  have hm := hS.max
  have hN : l.length * c ≤ 1000000 := by have := Nat.mul_le_mul hl hc; omega
  have hN1 : l.length ≤ l.length * c := Nat.le_mul_of_pos_right _ hc0
  obtain ⟨N, hNd⟩ : ∃ N, N = l.length * c := ⟨_, rfl⟩
  have hmul := fun w => mul_any l.length c (by omega) (by omega) (by omega) w
  rw [← hNd] at hN hN1 hmul ⊢
  have HM := hid hmul; have HN := hid hNd
  clear hmul hNd
  go_enter Tryz.func99, Tryz.ntmps99
  obtain ⟨ba, oa, rfl, hcs⟩ := hS.cells (by decide) 0 0 h0
  have hsrc : ∀ W, Below w.heap.size w W → ∃ ad, some (⟨ba, oa, none⟩ : Addr) = some ad ∧ ∀ j v, ((cyc l l.length).map cInt)[j]? = some v → W.cell? (ad.add j) = some v := fun W hW => by
    refine ⟨_, rfl, fun j v hv => ?_⟩
    rw [cyc_once] at hv
    have hj : j < l.length := by have := (List.getElem?_eq_some_iff.1 hv).1; simpa using this
    obtain ⟨b', o', e', hc'⟩ := (hS.below hW).cells (by decide) 0 j hj
    cases e'
    rw [Addr.add_z]
    have := hc' 0 v (by simpa [cInt, Value.cells, hj] using hv)
    simpa using this
  have HSRC := hid hsrc; clear hsrc hcs
  go_wp2_with (first | (go_at_call 144; refine (HM.out _).mono ?_; rintro e w' ⟨rfl, rfl⟩) | (((with_reducible refine wpList_make1 (c := cInt) (B := w.heap.size) (N) (0) E_intsZ cInt1 (by with_unfolding_all rfl) (by with_unfolding_all rfl) (by omega) (by omega) (by first | omega | (simp; done) | (simp; omega)) ?_); intro w1 ho1 hg1); have b1 := (Below.refl w.heap.size w).grown hg1 (Nat.le_refl _) (fun _ h => by cases h); have hL1 := own_laid (l := l) ho1 (by simp)) | ((with_reducible refine wpList_copyL l.length (by with_unfolding_all rfl) (by with_unfolding_all rfl) hL1 (by simp [Nat.min_def]; omega) (by omega) (by simp) rfl (HSRC.out _ b1) b1 (Nat.le_refl _) ?_); intro w2 hL2 hb2; simp only [Nat.zero_add] at hL2))
  go_loopw [8] (fun i wr => ∃ m : Nat, m ≤ N ∧ i = .int .i64 m ∧ Laid wr w.heap.size N m l ∧ 0 < m ∧ (m < N → m % l.length = 0) ∧ Below w.heap.size w wr) (fun i _ => N - (intOf i).toNat)
  case atStart => exact ⟨l.length, hN1, rfl, hL2, h0, fun _ => by simp, hb2⟩
  case round =>
    obtain ⟨m, hmN, rfl, hLm, hm0, hmod, hbr⟩ := hrel
    by_cases hlt : m < N
    · have hmo := hid (hmod hlt)
      clear hmod
      obtain ⟨k, hk⟩ : ∃ k, k = Nat.min m (N - m) := ⟨_, rfl⟩
      have hk1 : k ≤ m := by rw [hk]; exact Nat.min_le_left _ _
      have hk2 : m + k ≤ N := by have : k ≤ N - m := by rw [hk]; exact Nat.min_le_right m (N - m)
                                 omega
      have hk3 : 0 < k := by show 0 < k; rw [hk]; show 0 < min m (N - m); omega
      have hk4 : m + k < N → k = m := fun h => by have : k = min m (N - m) := hk; omega
      have HK := hid hk; have HK4 := hid hk4
      clear hk hk4
      have hsum : IntKind.i64.wrap ((m : Int) + k) = (m : Int) + k := IntWalk.i64_in _ (by omega)
      go_wp2_with fail
      have hLd : Laid wr.drew w.heap.size N m l := hLm
      have hcd : ∃ ad, some (⟨w.heap.size, 0, none⟩ : Addr) = some ad ∧ ∀ j v, ((cyc l k).map cInt)[j]? = some v → wr.drew.cell? (ad.add j) = some v := ⟨_, rfl, fun j v hv => hLd.cell j k hk1 v hv⟩
      have hbd := hbr.drew
      have hNm : ¬ N = m := by omega
      go_region_law (refine step_copyL (by rfl) _ _ (by rfl) (some ⟨w.heap.size, m, none⟩) (some ⟨w.heap.size, 0, none⟩) (N - m) (N - m) m N k (by simp [Act.eval, Act.put]) (by simp [Act.eval, Act.put]) hLd HK.out hk2 hmo.out rfl hcd hbd (Nat.le_refl _) ?_; intro w3 hL3 hb3)
      clear hsum
      have hfin : m + k < N → (m + k) % l.length = 0 := fun h => by rw [HK4.out h, ← Nat.two_mul, Nat.mul_mod, hmo.out, Nat.mul_zero, Nat.zero_mod]
      have hmo3 : N - ((m : Int) + k).toNat < N - (m : Int).toNat := by omega
      go_roundw
      case rel =>
        (repeat apply Exists.intro)
        exact ⟨⟨m + k, hk2, by go_num, hL3, by omega, hfin, hb3⟩, rfl⟩
      case measure => exact hmo3
    · have : m = N := by omega
      subst this
      clear hmod
      go_wp2_with fail
      go_ret
      exact ⟨_, rfl, hLm.own (Nat.le_refl _) (by omega), hbr⟩
end Go.Proofs.YtmomeggnegcheaaGreatDoor
