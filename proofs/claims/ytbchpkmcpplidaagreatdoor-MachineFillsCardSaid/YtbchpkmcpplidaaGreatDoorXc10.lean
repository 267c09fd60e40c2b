/- Contracts and plain facts that the claim uses (MbF QrR QrI QrS QrJ). Conditions: as each one states. -/
import Derived.Test.YtbchpkmcpplidaaGreatDoorXc08
import Derived.Test.YtbchpkmcpplidaaGreatDoorXc09
set_option linter.all false

namespace Go.Proofs.YtbchpkmcpplidaaGreatDoor
open Go.RowKit
set_option maxHeartbeats 2000000
set_option maxRecDepth 100000

section
variable {P : Program} {t e : TypeId} {w : World} {v : Value} {l : List Int} {y : Int}
theorem run_app_sib (ty : TypeId) (E : ETy P t e (.int .i64 0) 1 8) (hO : Own cInt 1 0 e w v l) {a : Option Addr} {cap : Nat} (hR : Reps cInt 1 w a cap [y]) (hl : l.length ≤ 1048576) :
  ∃ v' w', (Builtin.append_ #[t, t] ty #[v, .slice a 1 cap]).run P w = .ok v' w' ∧ Own cInt 1 0 e w' v' (l ++ [y]) ∧
   ((∃ g c, v = .slice (some ⟨g, 0, none⟩) l.length c ∧ v' = .slice (some ⟨g, 0, none⟩) (l.length + 1) c ∧ w.grownBy w' (some g)) ∨ (w.grownBy w' none ∧ v'.ownBlock = some w.heap.size)) := by
 obtain ⟨v', w', h1, h2, h3, h4⟩ := run_app ty E hO hR cIntO (by simp; omega) (by simp; omega) (Nat.zero_le _)
 refine ⟨v', w', h1, h2, ?_⟩
 obtain ⟨i, hi, hz, hs, hby⟩ := info_parts E.inf
 obtain ⟨b, o, rfl, hcell⟩ := hR.cells (by decide) 0 0 (by simp)
 have hy := hcell 0 (.int .i64 y) rfl
 simp only [Nat.zero_mul, Nat.add_zero] at hy
 have hnews : ∀ j u, ([.int .i64 y] : List Value)[j]? = some u → w.cell? ((⟨b, o, none⟩ : Addr).add j) = some u := by
  intro j u hu
  have hj : j = 0 := by have := (List.getElem?_eq_some_iff.1 hu).1; simp at this; omega
  subst hj
  simp at hu
  subst hu
  rw [Addr.add_z]
  exact hy
 have hfl : (l.flatMap fun x => (cInt x).cells.toList).length = l.length * 1 := flat_len _ 1 (fun x => by simpa using cIntS x) l
 have hO2 := hO.2
 rcases hO2.2 with ⟨rfl, h0⟩ | ⟨g, c, cur, rfl, _, hg, hnc, hcm, hcs, htk⟩
 ·right
  refine ⟨h3, ?_⟩
  rcases h4 with h4 | h4
  ·rcases h2.2.2 with ⟨rfl, h5⟩ | ⟨g', c', cur', rfl, _⟩
   ·simp at h5
   ·cases h4
  ·exact h4
 ·by_cases hroom : l.length + 1 ≤ c
  ·left
   have hr := run_append_room (P := P) w t ty e i E.und hi g l.length c cur hg ⟨b, o, none⟩ 1 cap [.int .i64 y] (by simp [hs]) hnews (by intro u hu; simp at hu; subst hu; rfl) hroom (by rw [hs, hcs]; simp; omega)
   have hr := h1.symm.trans hr
   injection hr with e1 e2
   subst e1
   exact ⟨g, c, rfl, rfl, h3⟩
  ·right
   have hr := run_append_grow (P := P) w t ty e i (.int .i64 0) E.und hi hz ⟨g, 0, none⟩ l.length c _ (by rw [hfl, hs]) (hO2.cells (g := g) rfl) ⟨b, o, none⟩ 1 cap [.int .i64 y] (by simp [hs]) hnews (by omega) (by omega) (growslice_fits (by omega) (by rw [hby]; omega))
   have hr := h1.symm.trans hr
   injection hr with e1 e2
   subst e1 e2
   refine ⟨⟨rfl, rfl, rfl, by simp, fun k hk _ => by first | exact heap_alloc_old w.drew _ k hk | exact heap_alloc_old w.drew _ hk⟩, rfl⟩
end
/-- what an append leaves of the shorter slice. -/
def Sib (v : Value) (l : List Int) (v' : Value) (T M : List Pc) : Prop :=
 (T = M ∧ ∃ g c, v = .slice (some ⟨g, 0, none⟩) l.length c ∧ v' = .slice (some ⟨g, 0, none⟩) (l.length + 1) c) ∨ T = pOwn cInt 1 3 v l :: M
theorem own_shorter {e : TypeId} {w : World} {g c : Nat} {l : List Int} {y : Int} {B : Nat} (h : Own cInt 1 B e w (.slice (some ⟨g, 0, none⟩) (l.length + 1) c) (l ++ [y])) : Own cInt 1 B e w (.slice (some ⟨g, 0, none⟩) l.length c) l := by
 obtain ⟨h1, h2, h3⟩ := h
 have hfl : ∀ L : List Int, (L.flatMap fun x => (cInt x).cells.toList).length = L.length * 1 := fun L => flat_len _ 1 (fun x => by simpa using cIntS x) L
 refine ⟨h1, hfl l, ?_⟩
 rcases h3 with ⟨h3, _⟩ | ⟨g', c', cur, hv, hB, hg, hnc, hcm, hcs, htk⟩
 ·cases h3
 ·simp only [Value.slice.injEq, Option.some.injEq, Addr.mk.injEq, and_true] at hv
  obtain ⟨rfl, _, rfl⟩ := hv
  refine .inr ⟨g, c, cur, rfl, hB, hg, ?_, hcm, hcs, ?_⟩
  ·simp at hnc; omega
  ·rw [List.flatMap_append] at htk
   have h4 := congrArg (List.take (l.length * 1)) htk
   rw [List.take_take, List.length_append, List.length_cons, List.length_nil] at h4
   rw [show min (l.length * 1) ((l.length + (0 + 1)) * 1) = l.length * 1 by omega] at h4
   rw [h4, ← hfl l, List.take_left]
theorem Sib.back {B : Nat} {w0 w : World} {v v' : Value} {l : List Int} {y : Int} {T M : List Pc} {p q : Pc} (h : Sib v l v' T M) (hS : SL B w0 w (p :: q :: pOwn cInt 1 3 v' (l ++ [y]) :: T)) : SL B w0 w (p :: q :: pOwn cInt 1 3 v l :: M) := by
 rcases h with ⟨rfl, g, c, rfl, rfl⟩ | rfl
 ·exact hS.weaken 2 rfl (pOwn cInt 1 3 (.slice (some ⟨g, 0, none⟩) l.length c) l) (fun b hb => ⟨own_shorter hb.1, hb.2⟩)
 ·exact SL.pickA (K := [p, q, pOwn cInt 1 3 v' (l ++ [y]), pOwn cInt 1 3 v l]) (M := M) hS [0, 1, 3] (by decide) (by simp) [p, q, pOwn cInt 1 3 v l] rfl
theorem sibFill {B : Nat} {w0 w : World} {v v' : Value} {l : List Int} {y : Int} {T L : List Pc} {p0 p1 p3 p4 : Pc} (h : Sib v l v' T (p0 :: p1 :: p3 :: p4 :: L)) (hS : SL B w0 w (pOwn cInt 1 3 v' (l ++ [y]) :: T)) :
  ∃ T', Sib v l v' T' L ∧ SL B w0 w (p0 :: p1 :: pOwn cInt 1 3 v' (l ++ [y]) :: p3 :: p4 :: T') := by
 rcases h with ⟨rfl, h⟩ | rfl
 ·exact ⟨L, .inl ⟨rfl, h⟩, SL.pickA (K := [pOwn cInt 1 3 v' (l ++ [y]), p0, p1, p3, p4]) (M := L) hS [1, 2, 0, 3, 4] (by decide) (by simp) [p0, p1, pOwn cInt 1 3 v' (l ++ [y]), p3, p4] rfl⟩
 ·exact ⟨_, .inr rfl, SL.pickA (K := [pOwn cInt 1 3 v' (l ++ [y]), pOwn cInt 1 3 v l, p0, p1, p3, p4]) (M := L) hS [2, 3, 0, 4, 5, 1] (by decide) (by simp) [p0, p1, pOwn cInt 1 3 v' (l ++ [y]), p3, p4, pOwn cInt 1 3 v l] rfl⟩
theorem Sib.back5 {B : Nat} {w0 w : World} {v v' : Value} {l : List Int} {y : Int} {T L : List Pc} {p0 p1 p3 p4 : Pc} (h : Sib v l v' T L) (hS : SL B w0 w (p0 :: p1 :: pOwn cInt 1 3 v' (l ++ [y]) :: p3 :: p4 :: T)) : SL B w0 w (p0 :: p1 :: pOwn cInt 1 3 v l :: p3 :: p4 :: L) := by
 rcases h with ⟨rfl, g, c, rfl, rfl⟩ | rfl
 ·exact hS.weaken 2 rfl (pOwn cInt 1 3 (.slice (some ⟨g, 0, none⟩) l.length c) l) (fun b hb => ⟨own_shorter hb.1, hb.2⟩)
 ·exact SL.pickA (K := [p0, p1, pOwn cInt 1 3 v' (l ++ [y]), p3, p4, pOwn cInt 1 3 v l]) (M := L) hS [0, 1, 5, 3, 4] (by decide) (by simp) [p0, p1, pOwn cInt 1 3 v l, p3, p4] rfl
section
variable {ops : Array Oper} {rest : List Oper} {a : Act} {Q : Exit → Act → World → Prop} {w0 w : World} {M : List Pc} {B : Nat} {v : Value} {l : List Int}
theorem wpList_pushSib {d : Option Tmp} {ty : TypeId} {p : String} {s x : Operand} {af : Array Edge} {H n cp : Nat} {y : Int} {T0 : TypeId} {fr : Nat × Nat}
   (hs : a.eval s = v) (hx : a.eval x = .slice (some ⟨H, 0, none⟩) n cp) (hS : SL B w0 w (pOwn cInt 1 3 v l :: M))
   (hn : n = 1 ∧ cp = 1) (hH : w.heap.size = H) (hl : l.length ≤ 1048576)
   (hK : ∀ v' w' T, Sib v l v' T M → SL B w0 w' (pOwn cInt 1 3 v' (l ++ [y]) :: T) → wpList Tryz.prog ops Q rest (a.put d v') w') :
   wpList Tryz.prog ops Q (⟨d, .call { callee := .builtin .append, args := #[s, x], argTypes := #[22, 22] }, ty, p, af, none⟩ :: rest) a (w.alloc (.cells #[.int .i64 y] T0 fr)) := by
 obtain ⟨rfl, rfl⟩ := hn
 have hS' := hS.al (.cells #[.int .i64 y] T0 fr)
 obtain ⟨b, ⟨h2, h3⟩, h4, h5⟩ := hS'.upd 0 rfl
 obtain ⟨v', w', r1, r2, r3⟩ := run_app_sib ty E_ints h2 (reps_new1 cIntS y #[.int .i64 y] fr hH rfl) hl
 refine wpList_plain rfl fun K hK' => ?_
 unfold Oper.wp execOp
 simp only [resolve, invoke, builtin, Sem.run_bind, Sem.run_pure, Result.andThen_ok, List.map_toArray, List.map_cons, List.map_nil, hs, hx, r1]
 refine hK' _ _ ?_
 rcases r3 with ⟨g, c, e1, e2, hg⟩ | ⟨hg, hb⟩
 ·refine hK v' w' M (.inl ⟨rfl, g, c, e1, e2⟩) ?_
  have hgb : b = some g := by rw [← h3, e1]; rfl
  exact h5 w' (pOwn cInt 1 3 v' (l ++ [y])) b (by rw [hgb]; exact hg) ⟨r2, by rw [hgb, e2]; rfl⟩ (.inl rfl)
 ·refine hK v' w' _ (.inr rfl) ?_
  refine hS'.new _ (b := some (w.alloc (.cells #[.int .i64 y] T0 fr)).heap.size) hg ⟨r2, hb⟩ (fun k e => by cases e; exact Nat.le_refl _)
end

def bigger (best l : List Int) : List Int := if best.length < l.length then l else best
noncomputable def extF (m : MacV) : Nat → List Int → List Int → Int → List Int
 | 0, best, _, _ => best
 | f + 1, best, l, s => if best.length < l.length + (f + 1) then extF m f (if apartM m s l then extF m f (bigger best (l ++ [s])) (l ++ [s]) (s + 1) else best) l (s + 1) else best
noncomputable def fillM (m : MacV) : List Int := extF m (4 * m.gears).toNat [] [] 0
theorem bigger_len (best l : List Int) (k : Nat) (h1 : best.length ≤ k) (h2 : l.length ≤ k) : (bigger best l).length ≤ k := by unfold bigger; split <;> assumption
theorem extF_len (m : MacV) : ∀ (f : Nat) (best l : List Int) (s : Int) (k : Nat), best.length ≤ k → l.length + f ≤ k → (extF m f best l s).length ≤ k
 | 0, best, l, s, k, h1, _ => h1
 | f + 1, best, l, s, k, h1, h2 => by
   rw [extF]
   split
   · refine extF_len m f _ _ _ k ?_ (by omega)
     split
     · exact extF_len m f _ _ _ k (bigger_len _ _ _ h1 (by simp; omega)) (by simp; omega)
     · exact h1
   · exact h1
end Go.Proofs.YtbchpkmcpplidaaGreatDoor

namespace Go.Proofs.YtbchpkmcpplidaaGreatDoor
set_option maxRecDepth 100000
/-- the first one of the greatest loads that begin with l and go on with slots from s on (f slots are left). -/
noncomputable def bestF (m : MacV) : Nat → List Int → Int → List Int
 | 0, l, _ => l
 | f + 1, l, s => bigger (if apartM m s l then bestF m f (l ++ [s]) (s + 1) else l) (bestF m f l (s + 1))
theorem bigger_len2 (a b : List Int) : (bigger a b).length = max a.length b.length := by
 unfold bigger; split <;> omega
theorem bigger_assoc (a b c : List Int) : bigger (bigger a b) c = bigger a (bigger b c) := by
 unfold bigger
 by_cases h1 : a.length < b.length
 ·rw [if_pos h1]
  by_cases h2 : b.length < c.length
  ·rw [if_pos h2, if_pos (by omega)]
  ·rw [if_neg h2, if_pos h1]
 ·rw [if_neg h1]
  by_cases h2 : b.length < c.length
  ·rw [if_pos h2]
  ·rw [if_neg h2, if_neg h1, if_neg (by omega)]
theorem bigger_keep {a b : List Int} (h : b.length ≤ a.length) : bigger a b = a := by unfold bigger; rw [if_neg (by omega)]
theorem bestF_ge (m : MacV) : ∀ (f : Nat) (l : List Int) (s : Int), l.length ≤ (bestF m f l s).length
 | 0, l, s => Nat.le_refl _
 | f + 1, l, s => by
   rw [bestF, bigger_len2]
   have := bestF_ge m f l (s + 1)
   omega
theorem bestF_le (m : MacV) : ∀ (f : Nat) (l : List Int) (s : Int), (bestF m f l s).length ≤ l.length + f
 | 0, l, s => Nat.le_refl _
 | f + 1, l, s => by
   rw [bestF, bigger_len2]
   have h1 := bestF_le m f l (s + 1)
   split
   · have h2 := bestF_le m f (l ++ [s]) (s + 1)
     rw [List.length_append, List.length_singleton] at h2
     omega
   · omega
theorem bestF_eq (m : MacV) : ∀ (f : Nat) (l : List Int) (s : Int), (bestF m f l s).length ≤ l.length → bestF m f l s = l
 | 0, l, s, h => rfl
 | f + 1, l, s, h => by
   rw [bestF] at h ⊢
   rw [bigger_len2] at h
   by_cases ha : apartM m s l = true
   · rw [if_pos ha] at h
     have := bestF_ge m f (l ++ [s]) (s + 1)
     rw [List.length_append, List.length_singleton] at this
     omega
   · rw [if_neg ha]
     rw [if_neg ha] at h
     rw [bestF_eq m f l (s + 1) (by omega)]
     exact bigger_keep (Nat.le_refl _)
/-- the program's search. -/
theorem extF_best (m : MacV) : ∀ (f : Nat) (best l : List Int) (s : Int), l.length ≤ best.length → extF m f best l s = bigger best (bestF m f l s)
 | 0, best, l, s, h => by rw [extF, bestF, bigger_keep h]
 | f + 1, best, l, s, h => by
   rw [extF]
   by_cases hp : best.length < l.length + (f + 1)
   · rw [if_pos hp, bestF]
     by_cases ha : apartM m s l = true
     · rw [if_pos ha, if_pos ha]
       have h1 : extF m f (bigger best (l ++ [s])) (l ++ [s]) (s + 1) = bigger best (bestF m f (l ++ [s]) (s + 1)) := by
         rw [extF_best m f _ _ _ (by rw [bigger_len2]; omega), bigger_assoc]
         congr 1
         have hg := bestF_ge m f (l ++ [s]) (s + 1)
         unfold bigger
         by_cases he : (l ++ [s]).length < (bestF m f (l ++ [s]) (s + 1)).length
         · rw [if_pos he]
         · rw [if_neg he]
           exact (bestF_eq m f (l ++ [s]) (s + 1) (by omega)).symm
       rw [h1, extF_best m f _ _ _ (by rw [bigger_len2]; omega), bigger_assoc]
     · rw [if_neg ha, if_neg ha, extF_best m f _ _ _ h]
       congr 1
       have hg := bestF_ge m f l (s + 1)
       unfold bigger
       by_cases he : l.length < (bestF m f l (s + 1)).length
       · rw [if_pos he]
       · rw [if_neg he]
         exact bestF_eq m f l (s + 1) (by omega)
   · rw [if_neg hp, bigger_keep]
     have := bestF_le m (f + 1) l s
     omega
theorem fillM_best (m : MacV) : fillM m = bestF m (4 * m.gears).toNat [] 0 := by
 unfold fillM
 rw [extF_best m _ _ _ _ (Nat.le_refl _)]
 unfold bigger
 by_cases h : ([] : List Int).length < (bestF m (4 * m.gears).toNat [] 0).length
 ·rw [if_pos h]
 ·rw [if_neg h]
  simp only [List.length_nil, Nat.not_lt, Nat.le_zero] at h
  exact (List.eq_nil_of_length_eq_zero h).symm
/-- what is apart from more is apart from less. -/
theorem apart_sub {m : MacV} {s t : Int} {l : List Int} (h : apartM m t (l ++ [s]) = true) : apartM m t l = true := by
 unfold apartM at h ⊢
 rw [List.any_append] at h
 simp only [Bool.not_eq_true', Bool.or_eq_false_iff] at h ⊢
 exact h.1
/-- the slots from s on that are apart. -/
noncomputable def freeF (m : MacV) (l : List Int) : Nat → Int → List Int
 | 0, _ => []
 | f + 1, s => if apartM m s l then s :: freeF m l f (s + 1) else freeF m l f (s + 1)
theorem freeF_sub (m : MacV) (l : List Int) (x : Int) : ∀ (f : Nat) (s : Int), (freeF m (l ++ [x]) f s).length ≤ (freeF m l f s).length
 | 0, s => Nat.le_refl _
 | f + 1, s => by
   have ih := freeF_sub m l x f (s + 1)
   rw [freeF, freeF]
   by_cases h : apartM m s (l ++ [x]) = true
   · rw [if_pos h, if_pos (apart_sub h), List.length_cons, List.length_cons]; omega
   · rw [if_neg h]
     split
     · rw [List.length_cons]; omega
     · exact ih
/-- not even all others would be more. -/
theorem bestF_free (m : MacV) : ∀ (f : Nat) (l : List Int) (s : Int), (bestF m f l s).length ≤ l.length + (freeF m l f s).length
 | 0, l, s => Nat.le_refl _
 | f + 1, l, s => by
   rw [bestF, bigger_len2, freeF]
   have h1 := bestF_free m f l (s + 1)
   by_cases ha : apartM m s l = true
   · rw [if_pos ha, if_pos ha, List.length_cons]
     have h2 := bestF_free m f (l ++ [s]) (s + 1)
     have h3 := freeF_sub m l s f (s + 1)
     rw [List.length_append, List.length_singleton] at h2
     omega
   · rw [if_neg ha, if_neg ha]; omega
/-- the reference's search goes through the free slots. -/
noncomputable def refF (m : MacV) (n : Nat) (l : List Int) : List Int → List Int → List Int
 | best, [] => best
 | best, s :: r => refF m n l (if best.length < l.length + (r.length + 1) then bigger best (bestF m (n - (s + 1).toNat) (l ++ [s]) (s + 1)) else best) r
theorem refF_best (m : MacV) (n : Nat) (l : List Int) : ∀ (f : Nat) (best : List Int) (s : Int), 0 ≤ s → s.toNat + f = n → l.length ≤ best.length → refF m n l best (freeF m l f s) = bigger best (bestF m f l s)
 | 0, best, s, h0, hn, h => by rw [freeF, refF, bestF, bigger_keep h]
 | f + 1, best, s, h0, hn, h => by
   rw [freeF, bestF]
   by_cases ha : apartM m s l = true
   · rw [if_pos ha, if_pos ha, refF]
     have e : n - (s + 1).toNat = f := by omega
     rw [e]
     have hb : (if best.length < l.length + ((freeF m l f (s + 1)).length + 1) then bigger best (bestF m f (l ++ [s]) (s + 1)) else best) = bigger best (bestF m f (l ++ [s]) (s + 1)) := by
       split
       · rfl
       · rename_i hp
         have h2 := bestF_free m f (l ++ [s]) (s + 1)
         have h3 := freeF_sub m l s f (s + 1)
         rw [List.length_append, List.length_singleton] at h2
         rw [bigger_keep (by omega)]
     rw [hb, refF_best m n l f _ (s + 1) (by omega) (by omega) (by rw [bigger_len2]; omega), bigger_assoc]
   · rw [if_neg ha, if_neg ha, refF_best m n l f best (s + 1) (by omega) (by omega) h]
     congr 1
     have hg := bestF_ge m f l (s + 1)
     unfold bigger
     by_cases he : l.length < (bestF m f l (s + 1)).length
     · rw [if_pos he]
     · rw [if_neg he]
       exact bestF_eq m f l (s + 1) (by omega)
end Go.Proofs.YtbchpkmcpplidaaGreatDoor

namespace Go.Proofs.YtbchpkmcpplidaaGreatDoor
open Go.RowKit
set_option maxHeartbeats 8000000
set_option maxRecDepth 100000
theorem any_step {l : List Int} (f : Int → Bool) {j : Nat} (h : j < l.length) : (l.take (j + 1)).any f = ((l.take j).any f || f (atD 0 l j)) := by
 rw [take_snoc h, List.any_append]
 simp
theorem filt_step {m : MacV} (f : Int → Bool) {k : Nat} (h : k < (slotsL m).length) : ((slotsL m).take (k + 1)).filter f = ((slotsL m).take k).filter f ++ (if f k then [(k : Int)] else []) := by
 rw [slotsL_take m h, List.filter_append]
 congr 1
 cases hf : f (k : Int) <;> simp [hf]
theorem rFree_any (m : MacV) (ad : Option Addr) (cap : Nat) (al : Option Addr) (cl : Nat) (l : List Int) (w : World) (hR : Ints w ad cap m.sw) (hL : Ints w al cl l) (hg0 : 1 ≤ m.gears) (hg : m.gears ≤ 16) (hl : ∀ x ∈ l, 0 ≤ x ∧ x < 4 * m.gears) (hn : l.length ≤ 64) :
  Calls Tryz.prog 34 #[mV m ad cap, .slice al l.length cl] w fun r w' => ∃ v, r = .returned v ∧ OwnI w.heap.size w' v (freeM m l) ∧ Below w.heap.size w w' := by
 have hcap := hL.le
 have hmx := hL.max
 have hS := ((SL.nil w).box (.cells (mC m ad cap) 25)).nilS (α := Int) (e := 3) cIntS
 obtain ⟨n, hnn⟩ : ∃ n : Nat, 4 * m.gears = n := ⟨(4 * m.gears).toNat, by omega⟩
 have hn64 : n ≤ 64 := by omega
 have hsl : (slotsL m).length = n := by rw [slotsL_len]; omega
 have CN := fun w => rSlots_any m ad cap w (by omega) hg
 rw [hnn] at CN
 have HCA : Hid (∀ (i j : Nat) w, Ints w ad cap m.sw → i < n → j < l.length → atD 0 l j ≠ (i : Int) → _) := hid fun i j w h hi hj hne => rpair_any m ad cap (i : Int) (atD 0 l j) w h hg0 hg (by omega) (by omega) (atD_in hl hj).1 (atD_in hl hj).2 (fun e => hne e.symm)
 have HSL := hid hsl; have HN := hid CN
 have HSTEP : Hid (∀ i j : Nat, j < l.length → (l.take (j + 1)).any (hurtM m i) = ((l.take j).any (hurtM m i) || hurtM m i (atD 0 l j))) := hid fun i j h => any_step _ h
 have HFS : Hid (∀ k : Nat, k < n → ((slotsL m).take (k + 1)).filter (fun s => apartM m s l) = ((slotsL m).take k).filter (fun s => apartM m s l) ++ (if apartM m k l then [(k : Int)] else [])) := hid fun k hk => filt_step _ (by rw [hsl]; exact hk)
 have HFM : Hid (freeM m l = (slotsL m).filter (fun s => apartM m s l)) := hid rfl
 have HLE : Hid (∀ k, (((slotsL m).take k).filter (fun s => apartM m s l)).length ≤ 64) := hid fun k => by
  have h1 := List.length_filter_le (fun s => apartM m s l) ((slotsL m).take k)
  rw [List.length_take] at h1
  omega
 have HAP : Hid (∀ k : Nat, apartM m k l = !(l.take l.length).any (hurtM m k)) := hid fun k => by rw [List.take_length]; rfl
 rw [HFM.out]
 clear CN hsl hl hnn
 go_enter Tryz.func34, Tryz.ntmps34
 go_wp2_with fail
 go_loopw [5, 6, 7, 8] (fun v i _ _ wr => ∃ k : Nat, k ≤ n ∧ i = .int .i64 k ∧ SL w.heap.size w wr [pOwn cInt 1 3 v (((slotsL m).take k).filter fun s => apartM m s l), pBlk w.heap.size (.cells (mC m ad cap) 25)]) (fun _ i _ _ _ => n - (intOf i).toNat)
 case atStart => exact ⟨0, by omega, rfl, hS⟩
 case round =>
  clear hS
  obtain ⟨k, hk, rfl, hSr⟩ := hrel
  have q1 := (hSr.blk 1 rfl).1
  go_wp2_with (with_reducible refine wpList_ldS (n := 4) (us := mC m ad cap) A_rmach (by kernel_rfl) (by with_unfolding_all rfl) (by with_unfolding_all rfl) (by assumption) (by with_unfolding_all rfl) (by with_unfolding_all rfl) ?_)
  refine (HN.out _).mono ?_
  rintro e w1 ⟨rfl, b1⟩
  have hS1 := hSr.mono b1
  by_cases hlt : k < n
  ·go_wp2_with fail
   go_loopw [7, 8] (fun f j wq => ∃ j0 : Nat, j0 ≤ l.length ∧ f = .bool (!(l.take j0).any (hurtM m k)) ∧ j = .int .i64 j0 ∧ SL w.heap.size w wq [pOwn cInt 1 3 u5 (((slotsL m).take k).filter fun s => apartM m s l), pBlk w.heap.size (.cells (mC m ad cap) 25)]) (fun _ j _ => l.length - (intOf j).toNat)
   case atStart => exact ⟨0, by omega, rfl, rfl, hS1⟩
   case round =>
    clear hSr hS1 q1
    obtain ⟨j, hj, rfl, rfl, hSq⟩ := hrel
    by_cases hjl : j < l.length
    ·have hst := HSTEP.out k j hjl
     have hhu : hurtM m k (atD 0 l j) = (decide (atD 0 l j = k) || (meetM m k (atD 0 l j)).isSome) := rfl
     have hpn := pairN_nonneg (m := m) (p := ((k : Int), atD 0 l j))
     have CC := fun w h hne => HCA.out k j w h hlt hjl hne
     obtain ⟨Q, hQ⟩ : ∃ Q, Q = pairN m ((k : Int), atD 0 l j) := ⟨_, rfl⟩
     rw [← hQ] at hpn CC
     dsimp only at hpn
     obtain ⟨X, hX⟩ : ∃ X, X = atD 0 l j := ⟨_, rfl⟩
     rw [← hX] at hst hhu hpn CC
     obtain ⟨F, hF⟩ : ∃ F, F = (l.take j).any (hurtM m k) := ⟨_, rfl⟩
     rw [← hF] at hst ⊢
     have HX := hid hX
     have hLq := hL.below hSq.b
     have hRq := hR.below hSq.b
     have q2 := (hSq.blk 1 rfl).1
     have hjk : (j : Int) < l.length := by omega
     clear hX hF hQ
     cases F
     ·rw [Bool.false_or, hhu] at hst
      by_cases hxk : X = k
      ·have hxd : (X != (k : Int)) = false := by simpa using hxk
       rw [decide_eq_true hxk, Bool.true_or] at hst
       have hft : (!(l.take (j + 1)).any (hurtM m k)) = false := by rw [hst]; rfl
       have HST := hid hft
       clear hst hhu hpn CC hxk hft
       go_wp2_with fail
       refine wp_region_q (by kernel_rfl) (by kernel_rfl) ?_
       repeat (first | ((with_reducible refine wpQ_skip (by with_unfolding_all rfl) ?_); (try simp only [Act.put, pA, pB, pC])) | ((with_reducible refine wpB_loadS (n := 4) (us := mC m ad cap) A_rmach (by kernel_rfl) (by with_unfolding_all rfl) (by with_unfolding_all rfl) (by assumption) (by with_unfolding_all rfl) (by with_unfolding_all rfl) ?_); (try simp only [Act.put, pA, pB, pC])) | (((with_reducible refine wpB_idxW 0 E_ints F_int cInt1 (by with_unfolding_all rfl) (rfl) (by with_unfolding_all rfl) (hLq) (by first | omega | (simp; done)) (by first | omega | (simp; done)) (fun _ => by with_unfolding_all rfl) (by with_unfolding_all rfl) (fun _ => by with_unfolding_all rfl) (fun _ => ?_)); (try simp only [Act.put, pA, pB, pC]); (try simp only [cInt])); rw [← HX.out]) | (((refine wpQ_oneG ?_ (by with_unfolding_all rfl) (fun w' => ?_) ?_); rotate_left; (go_simp; rfl); (try simp only [Act.put, pA, pB, pC])); first | rw [hxd] | skip) |  ((with_reducible refine wpB_load (by first | exact F_int | exact F_u64s) (by with_unfolding_all rfl) (by with_unfolding_all rfl) (by assumption) (by with_unfolding_all rfl) ?_); (try simp only [Act.put, pA, pB, pC])) | ((refine wpQ_oneG ?_ (by with_unfolding_all rfl) (fun w' => ?_) ?_); rotate_left; (go_simp; rfl); (try simp only [Act.put, pA, pB, pC])))
       refine wpQuiet_nil ?_
       intro w5 hb5
       have hS5 := hSq.mono hb5
       clear q2
       go_wp2_with fail
       exact ⟨⟨j + 1, by omega, by rw [HST.out], by go_num, hS5⟩, by simp [intOf]; omega⟩
      ·have hxd : (X != (k : Int)) = true := by simpa using hxk
       rw [decide_eq_false hxk, Bool.false_or] at hst
       have HC : Hid (∀ w, _ → _) := hid fun w h => CC w h hxk
       by_cases hq0 : Q < 0
       ·have hqd : decide (Q < 0) = true := decide_eq_true hq0
        have hm0 : (meetM m k X).isSome = false := by
         cases hm : meetM m k X with
         | none => rfl
         | some v => exact absurd (hpn.2 (by rw [hm]; exact fun h => by cases h)) (by omega)
        have hft : (!(l.take (j + 1)).any (hurtM m k)) = true := by rw [hst, hm0]; rfl
        have HST := hid hft
        clear hst hhu hpn CC hxk hft hm0
        go_wp2_with fail
        refine wp_region_q (by kernel_rfl) (by kernel_rfl) ?_
        repeat (first | ((with_reducible refine wpQ_skip (by with_unfolding_all rfl) ?_); (try simp only [Act.put, pA, pB, pC])) | ((with_reducible refine wpB_loadS (n := 4) (us := mC m ad cap) A_rmach (by kernel_rfl) (by with_unfolding_all rfl) (by with_unfolding_all rfl) (by assumption) (by with_unfolding_all rfl) (by with_unfolding_all rfl) ?_); (try simp only [Act.put, pA, pB, pC])) | (((with_reducible refine wpB_idxW 0 E_ints F_int cInt1 (by with_unfolding_all rfl) (rfl) (by with_unfolding_all rfl) (hLq) (by first | omega | (simp; done)) (by first | omega | (simp; done)) (fun _ => by with_unfolding_all rfl) (by with_unfolding_all rfl) (fun _ => by with_unfolding_all rfl) (fun _ => ?_)); (try simp only [Act.put, pA, pB, pC]); (try simp only [cInt])); rw [← HX.out]) | ((with_reducible refine wpB_call (.int .i64 Q) (by with_unfolding_all rfl) (fun w' => ?_) (fun w' hw' => HC.out w' (hRq.below hw')) ?_); (focus (go_simp; done)); (try simp only [Act.put, pA, pB, pC])) | (((refine wpQ_oneG ?_ (by with_unfolding_all rfl) (fun w' => ?_) ?_); rotate_left; (go_simp; rfl); (try simp only [Act.put, pA, pB, pC])); first | rw [hxd] | rw [hqd] | skip) |  ((with_reducible refine wpB_load (by first | exact F_int | exact F_u64s) (by with_unfolding_all rfl) (by with_unfolding_all rfl) (by assumption) (by with_unfolding_all rfl) ?_); (try simp only [Act.put, pA, pB, pC])) | ((refine wpQ_oneG ?_ (by with_unfolding_all rfl) (fun w' => ?_) ?_); rotate_left; (go_simp; rfl); (try simp only [Act.put, pA, pB, pC])))
        refine wpQuiet_nil ?_
        intro w5 hb5
        have hS5 := hSq.mono hb5
        clear q2
        go_wp2_with fail
        exact ⟨⟨j + 1, by omega, by rw [HST.out], by go_num, hS5⟩, by simp [intOf]; omega⟩
       ·have hqd : decide (Q < 0) = false := decide_eq_false hq0
        have hm0 : (meetM m k X).isSome = true := by
         cases hm : meetM m k X with
         | none => exact absurd hm (hpn.1 (by omega))
         | some v => rfl
        have hft : (!(l.take (j + 1)).any (hurtM m k)) = false := by rw [hst, hm0]; rfl
        have HST := hid hft
        clear hst hhu hpn CC hxk hft hm0
        go_wp2_with fail
        refine wp_region_q (by kernel_rfl) (by kernel_rfl) ?_
        repeat (first | ((with_reducible refine wpQ_skip (by with_unfolding_all rfl) ?_); (try simp only [Act.put, pA, pB, pC])) | ((with_reducible refine wpB_loadS (n := 4) (us := mC m ad cap) A_rmach (by kernel_rfl) (by with_unfolding_all rfl) (by with_unfolding_all rfl) (by assumption) (by with_unfolding_all rfl) (by with_unfolding_all rfl) ?_); (try simp only [Act.put, pA, pB, pC])) | (((with_reducible refine wpB_idxW 0 E_ints F_int cInt1 (by with_unfolding_all rfl) (rfl) (by with_unfolding_all rfl) (hLq) (by first | omega | (simp; done)) (by first | omega | (simp; done)) (fun _ => by with_unfolding_all rfl) (by with_unfolding_all rfl) (fun _ => by with_unfolding_all rfl) (fun _ => ?_)); (try simp only [Act.put, pA, pB, pC]); (try simp only [cInt])); rw [← HX.out]) | ((with_reducible refine wpB_call (.int .i64 Q) (by with_unfolding_all rfl) (fun w' => ?_) (fun w' hw' => HC.out w' (hRq.below hw')) ?_); (focus (go_simp; done)); (try simp only [Act.put, pA, pB, pC])) | (((refine wpQ_oneG ?_ (by with_unfolding_all rfl) (fun w' => ?_) ?_); rotate_left; (go_simp; rfl); (try simp only [Act.put, pA, pB, pC])); first | rw [hxd] | rw [hqd] | skip) |  ((with_reducible refine wpB_load (by first | exact F_int | exact F_u64s) (by with_unfolding_all rfl) (by with_unfolding_all rfl) (by assumption) (by with_unfolding_all rfl) ?_); (try simp only [Act.put, pA, pB, pC])) | ((refine wpQ_oneG ?_ (by with_unfolding_all rfl) (fun w' => ?_) ?_); rotate_left; (go_simp; rfl); (try simp only [Act.put, pA, pB, pC])))
        refine wpQuiet_nil ?_
        intro w5 hb5
        have hS5 := hSq.mono hb5
        clear q2
        go_wp2_with fail
        exact ⟨⟨j + 1, by omega, by rw [HST.out], by go_num, hS5⟩, by simp [intOf]; omega⟩
     ·rw [Bool.true_or] at hst
      have hft : (!(l.take (j + 1)).any (hurtM m k)) = false := by rw [hst]; rfl
      have HST := hid hft
      clear hst hhu hpn CC hft
      go_wp2_with fail
      refine wp_region_q (by kernel_rfl) (by kernel_rfl) ?_
      repeat (first | ((with_reducible refine wpQ_skip (by with_unfolding_all rfl) ?_); (try simp only [Act.put, pA, pB, pC])) | ((with_reducible refine wpB_loadS (n := 4) (us := mC m ad cap) A_rmach (by kernel_rfl) (by with_unfolding_all rfl) (by with_unfolding_all rfl) (by assumption) (by with_unfolding_all rfl) (by with_unfolding_all rfl) ?_); (try simp only [Act.put, pA, pB, pC])) | (((with_reducible refine wpB_idxW 0 E_ints F_int cInt1 (by with_unfolding_all rfl) (rfl) (by with_unfolding_all rfl) (hLq) (by first | omega | (simp; done)) (by first | omega | (simp; done)) (fun _ => by with_unfolding_all rfl) (by with_unfolding_all rfl) (fun _ => by with_unfolding_all rfl) (fun _ => ?_)); (try simp only [Act.put, pA, pB, pC]); (try simp only [cInt])); rw [← HX.out]) | (((refine wpQ_oneG ?_ (by with_unfolding_all rfl) (fun w' => ?_) ?_); rotate_left; (go_simp; rfl); (try simp only [Act.put, pA, pB, pC])); first | rw [HST.out] | skip) |  ((with_reducible refine wpB_load (by first | exact F_int | exact F_u64s) (by with_unfolding_all rfl) (by with_unfolding_all rfl) (by assumption) (by with_unfolding_all rfl) ?_); (try simp only [Act.put, pA, pB, pC])) | ((refine wpQ_oneG ?_ (by with_unfolding_all rfl) (fun w' => ?_) ?_); rotate_left; (go_simp; rfl); (try simp only [Act.put, pA, pB, pC])))
      refine wpQuiet_nil ?_
      intro w5 hb5
      have hS5 := hSq.mono hb5
      clear q2
      go_wp2_with fail
      exact ⟨⟨j + 1, by omega, by rw [HST.out], by go_num, hS5⟩, by simp [intOf]; omega⟩
    ·have hjl2 : j = l.length := by omega
     subst hjl2
     have hfs := HFS.out k hlt
     rw [← HAP.out]
     have hle := HLE.out k
     cases hap : apartM m k l
     ·rw [hap] at hfs
      simp only [Bool.false_eq_true, if_false, List.append_nil] at hfs
      have HFF := hid hfs
      clear hfs hap
      go_wp2_with fail
      exact ⟨⟨k + 1, by omega, by go_num, by rw [HFF.out]; exact hSq⟩, by simp [intOf]; omega⟩
     ·rw [hap] at hfs
      simp only [if_true] at hfs
      have HFF := hid hfs
      clear hfs hap
      go_wp2_with ((with_reducible refine wpList_pushL (y := (k : Int)) 0 E_ints (by with_unfolding_all rfl) (by with_unfolding_all rfl) (hSq) (by with_unfolding_all rfl) cIntO ⟨rfl, rfl⟩ (by first | with_unfolding_all rfl | simp) (by with_unfolding_all rfl) (by first | omega | (simp; omega)) (by first | omega | (simp; omega)) ?_); intro v5 w5 hS5)
      exact ⟨⟨k + 1, by omega, by go_num, by rw [HFF.out]; exact hS5⟩, by simp [intOf]; omega⟩
  ·have hkn : k = n := by omega
   subst hkn
   have et : (slotsL m).take k = slotsL m := List.take_of_length_le (by rw [HSL.out]; omega)
   rw [et] at hS1
   clear et
   go_wp2_with fail
   go_ret
   exact ⟨_, rfl, hS1.own 0 rfl, hS1.b⟩
end Go.Proofs.YtbchpkmcpplidaaGreatDoor

namespace Go.Proofs.YtbchpkmcpplidaaGreatDoor
set_option maxRecDepth 100000
/-- the reference's search as it goes. -/
noncomputable def refS (m : MacV) (n : Nat) (l : List Int) (last : Int) : List Int → List Int → List Int
 | best, [] => best
 | best, s :: r => refS m n l last (if last < s ∧ best.length < l.length + (r.length + 1) then bigger best (bestF m (n - (s + 1).toNat) (l ++ [s]) (s + 1)) else best) r
theorem refS_skip (m : MacV) (n : Nat) (l : List Int) (last : Int) (B : List Int) : ∀ (A best : List Int), (∀ x ∈ A, x ≤ last) → refS m n l last best (A ++ B) = refS m n l last best B
 | [], best, _ => rfl
 | x :: r, best, h => by
   have hx := h x List.mem_cons_self
   rw [List.cons_append, refS, if_neg (by omega)]
   exact refS_skip m n l last B r best fun y hy => h y (List.mem_cons_of_mem _ hy)
theorem refS_ref (m : MacV) (n : Nat) (l : List Int) (last : Int) : ∀ (A best : List Int), (∀ x ∈ A, last < x) → refS m n l last best A = refF m n l best A
 | [], best, _ => rfl
 | x :: r, best, h => by
   have hx := h x List.mem_cons_self
   rw [refS, refF]
   have e : (last < x ∧ best.length < l.length + (r.length + 1)) ↔ best.length < l.length + (r.length + 1) := ⟨fun k => k.2, fun k => ⟨hx, k⟩⟩
   simp only [e]
   exact refS_ref m n l last r _ fun y hy => h y (List.mem_cons_of_mem _ hy)
theorem freeF_rng (m : MacV) (l : List Int) : ∀ (f : Nat) (s : Int), ∀ x ∈ freeF m l f s, s ≤ x ∧ x < s + f
 | 0, s, x, hx => by cases hx
 | f + 1, s, x, hx => by
   rw [freeF] at hx
   have ih := freeF_rng m l f (s + 1) x
   split at hx
   · rcases List.mem_cons.1 hx with rfl | hx
     · omega
     · have := ih hx; omega
   · have := ih hx; omega
theorem freeF_add (m : MacV) (l : List Int) (b : Nat) : ∀ (a : Nat) (s : Int), freeF m l (a + b) s = freeF m l a s ++ freeF m l b (s + a)
 | 0, s => by simp [freeF]
 | a + 1, s => by
   have e : a + 1 + b = (a + b) + 1 := by omega
   have e2 : s + 1 + (a : Int) = s + ((a + 1 : Nat) : Int) := by omega
   rw [e, freeF, freeF, freeF_add m l b a (s + 1), e2]
   split
   · rw [List.cons_append]
   · rfl
theorem freeM_free (m : MacV) (l : List Int) : freeM m l = freeF m l (4 * m.gears).toNat 0 := by
 have key : ∀ (f k : Nat), ((List.range' k f).map fun (i : Nat) => (i : Int)).filter (fun s => apartM m s l) = freeF m l f k := by
  intro f
  induction f with
  | zero => intro k; rfl
  | succ f ih =>
   intro k
   have := ih (k + 1)
   rw [List.range'_succ, List.map_cons, freeF, List.filter_cons]
   have e : ((k : Int) + 1) = ((k + 1 : Nat) : Int) := by omega
   rw [e, ← this]
 have h := key (4 * m.gears).toNat 0
 unfold freeM slotsL
 rw [List.range_eq_range']
 exact h
theorem refS_best {m : MacV} {l : List Int} {last : Int} {n : Nat} (hn : 4 * m.gears = n) (h0 : -1 ≤ last) (h1 : last < n) : refS m n l last l (freeM m l) = bestF m (n - (last + 1).toNat) l (last + 1) := by
 have e : (4 * m.gears).toNat = (last + 1).toNat + (n - (last + 1).toNat) := by omega
 have e2 : (0 : Int) + ((last + 1).toNat : Int) = last + 1 := by omega
 rw [freeM_free, e, freeF_add, e2, refS_skip _ _ _ _ _ _ _ (fun x hx => by have := freeF_rng m l _ _ x hx; omega), refS_ref _ _ _ _ _ _ (fun x hx => by have := freeF_rng m l _ _ x hx; omega)]
 rw [refF_best m n l _ l (last + 1) (by omega) (by omega) (Nat.le_refl _)]
 have hg := bestF_ge m (n - (last + 1).toNat) l (last + 1)
 unfold bigger
 by_cases he : l.length < (bestF m (n - (last + 1).toNat) l (last + 1)).length
 ·rw [if_pos he]
 ·rw [if_neg he]
  exact (bestF_eq m _ l (last + 1) (by omega)).symm
theorem freeM_rng {m : MacV} {l : List Int} (hg : 1 ≤ m.gears) : ∀ x ∈ freeM m l, 0 ≤ x ∧ x < 4 * m.gears := fun x hx => by
 rw [freeM_free] at hx
 have := freeF_rng m l _ _ x hx
 omega
theorem freeM_len {m : MacV} {l : List Int} : (freeM m l).length ≤ (4 * m.gears).toNat := by
 have h1 := List.length_filter_le (fun s => apartM m s l) (slotsL m)
 rw [slotsL_len] at h1
 exact h1
/-- one round of the reference's search. -/
theorem refS_step {m : MacV} {n : Nat} {l F best : List Int} {last : Int} {k : Nat} (h : k < F.length) : refS m n l last best (F.drop k) = refS m n l last (if last < atD 0 F k ∧ best.length + k < l.length + F.length then bigger best (bestF m (n - (atD 0 F k + 1).toNat) (l ++ [atD 0 F k]) (atD 0 F k + 1)) else best) (F.drop (k + 1)) := by
 have e : atD 0 F k = F[k] := by simp [atD, h]
 rw [List.drop_eq_getElem_cons h, refS, ← e]
 have e2 : (best.length < l.length + ((F.drop (k + 1)).length + 1)) ↔ best.length + k < l.length + F.length := by rw [List.length_drop]; omega
 simp only [e2]
end Go.Proofs.YtbchpkmcpplidaaGreatDoor

namespace Go.Proofs.YtbchpkmcpplidaaGreatDoor
open Go.RowKit
set_option maxHeartbeats 8000000
set_option maxRecDepth 100000
theorem rFill_any (m : MacV) (ad : Option Addr) (cap n : Nat) (hnn : 4 * m.gears = n) (hg0 : 1 ≤ m.gears) (hg : m.gears ≤ 16) : ∀ (K : Nat) (al : Option Addr) (cl : Nat) (l : List Int) (last : Int) (w : World), Ints w ad cap m.sw → Ints w al cl l → (∀ x ∈ l, 0 ≤ x ∧ x < 4 * m.gears) →
  ((l.length = 0 ∧ last = -1) ∨ (0 < l.length ∧ atD 0 l ((l.length : Int) - 1) = last)) → -1 ≤ last → last < n → (l.length : Int) ≤ last + 1 → n - (last + 1).toNat < K →
  Calls Tryz.prog 32 #[mV m ad cap, .slice al l.length cl] w fun r w' => ∃ a c, r = .returned (.slice a (bestF m (n - (last + 1).toNat) l (last + 1)).length c) ∧ Ints w' a c (bestF m (n - (last + 1).toNat) l (last + 1)) ∧ Below w.heap.size w w' := by
 intro K
 induction K with
 | zero => exact fun _ _ _ _ _ _ _ _ _ _ _ _ h => absurd h (Nat.not_lt_zero _)
 | succ K IH =>
  intro al cl l last w hR hL hl hla hl0 hl1 hln hK
  have hcap := hL.le
  have hmx := hL.max
  have hn64 : n ≤ 64 := by omega
  have hl64 : l.length ≤ 64 := by omega
  have hS := (SL.nil w).box (.cells (mC m ad cap) 25)
  have HFR : Hid (∀ w, Ints w ad cap m.sw → Ints w al cl l → _) := hid fun w h h2 => rFree_any m ad cap al cl l w h h2 hg0 hg hl hl64
  have HIHA : Hid (∀ (s : Int) (a : Option Addr) (c : Nat) (w : World), Ints w ad cap m.sw → Ints w a c (l ++ [s]) → 0 ≤ s → s < n → last < s → _) := hid fun s a c w h h2 hs0 hs1 hsl =>
   IH a c (l ++ [s]) s w h h2 (fun x hx => by
    rcases List.mem_append.1 hx with hx | hx
    ·exact hl x hx
    ·simp at hx; subst hx; omega) (.inr ⟨by simp, by
    have e : (((l ++ [s]).length : Nat) : Int) - 1 = (l.length : Int) := by simp
    rw [e]; simp [atD]⟩) (by omega) hs1 (by simp; omega) (by omega)
  have hX := refS_best (l := l) hnn hl0 hl1
  have HFRG : Hid (∀ k : Nat, k < (freeM m l).length → 0 ≤ atD 0 (freeM m l) k ∧ atD 0 (freeM m l) k < n) := hid fun k hk => by have := atD_in (freeM_rng (l := l) hg0) hk; omega
  have hfl : (freeM m l).length ≤ n := by have := freeM_len (m := m) (l := l); omega
  have HBL : Hid (∀ (s : Int), 0 ≤ s → s < n → last < s → (bestF m (n - (s + 1).toNat) (l ++ [s]) (s + 1)).length ≤ 64) := hid fun s h0 h1 h2 => by
   have := bestF_le m (n - (s + 1).toNat) (l ++ [s]) (s + 1)
   rw [List.length_append, List.length_singleton] at this
   omega
  have HST : Hid (∀ (k : Nat) (B : List Int), k < (freeM m l).length → _) := hid fun k B h => refS_step (m := m) (n := n) (l := l) (best := B) (last := last) h
  obtain ⟨X, hXX⟩ : ∃ X, X = bestF m (n - (last + 1).toNat) l (last + 1) := ⟨_, rfl⟩
  rw [← hXX] at hX ⊢
  obtain ⟨FL, hFL⟩ : ∃ FL, FL = freeM m l := ⟨_, rfl⟩
  simp only [← hFL] at HFR HFRG HST hX hfl
  have HX := hid hX
  have hFe : FL.drop FL.length = [] := List.drop_length
  have HFE := hid hFe
  clear hX hXX hFL hFe hl hK hnn IH
  obtain ⟨N, hN⟩ : ∃ N, N = FL.length := ⟨_, rfl⟩
  rw [← hN] at hfl
  have HN := hid hN
  clear hN
  rcases hla with ⟨hl00, hla⟩ | ⟨hlp, hla⟩
  ·have hd : decide (0 < l.length) = false := decide_eq_false (by omega)
   have hnl : ¬ 0 < l.length := by omega
   clear hl00
   subst hla
   go_enter Tryz.func32, Tryz.ntmps32
   go_wp2_with fail
   refine (HFR.out _ (hR.below hS.b) (hL.below hS.b)).mono ?_
   rintro e w2 ⟨v2, rfl, ho2, b2⟩
   obtain ⟨a2, c2, rfl, h2, _, _⟩ := ho2.reps
   have hS2 := hS.mono b2
   have q2 := (hS2.blk 0 rfl).1
   have hlt2 := (hS2.blk 0 rfl).2.2
   have hL2 := hL.below hS2.b
   have hR2 := hR.below hS2.b
   have hW2 := hS2.b
   rw [← HN.out]
   clear hS hS2 ho2 b2
   go_wp2_with fail
   go_loopw [5, 8, 9] (fun bo i _ wr => ∃ (k : Nat) (B : List Int) (ab : Option Addr) (cb : Nat), k ≤ N ∧ bo = .slice ab B.length cb ∧ i = .int .i64 k ∧ Ints wr ab cb B ∧ l.length ≤ B.length ∧ B.length ≤ 64 ∧ refS m n l (-1 : Int) B (FL.drop k) = X ∧ Below w2.heap.size w2 wr) (fun _ i _ _ => N - (intOf i).toNat)
   case atStart => exact ⟨0, l, al, cl, by omega, rfl, rfl, hL2, by omega, hl64, HX.out, Below.refl _ _⟩
   case round =>
    obtain ⟨k, B, ab, cb, hk, rfl, rfl, hBr, hlB, hB64, hgo, hbr⟩ := hrel
    have hLr := hL2.below hbr
    have hRr := hR2.below hbr
    have hFr := h2.below hbr
    by_cases hlt : k < N
    ·have hst := HST.out k B (by rw [← HN.out]; exact hlt)
     have hsr := HFRG.out k (by rw [← HN.out]; exact hlt)
     rw [hgo, ← HN.out] at hst
     have hcells := h2.cells (by decide) 0 k (by rw [← HN.out]; exact hlt)
     have hatg : FL.getD k 0 = atD 0 FL k := rfl
     obtain ⟨s, hs⟩ : ∃ s, s = atD 0 FL k := ⟨_, rfl⟩
     rw [← hs] at hst hsr hatg
     have HS := hid hs
     have HFL : Hid (FL.length = N) := hid HN.out.symm
     clear hgo hs
     by_cases hls : (-1 : Int) < s
     ·have hld : decide ((-1 : Int) < s) = true := decide_eq_true hls
      by_cases hcn : B.length + k < l.length + N
      ·rw [if_pos ⟨hls, hcn⟩] at hst
       have HIH0 := fun a c w h h2 => HIHA.out s a c w h h2 hsr.1 hsr.2 hls
       have hY64 := HBL.out s hsr.1 hsr.2 hls
       obtain ⟨Y, hYY⟩ : ∃ Y, Y = bestF m (n - (s + 1).toNat) (l ++ [s]) (s + 1) := ⟨_, rfl⟩
       rw [← hYY] at hst hY64
       simp only [← hYY] at HIH0
       have HIH := hid HIH0; have HST := hid hst.symm
       obtain ⟨bf, of, rfl, hcs⟩ := hcells
       have hcell : w2.cell? ⟨bf, of + k * 1, none⟩ = some (.int .i64 s) := by
        have := hcs 0 (cInt (FL.getD k 0)) rfl
        rw [hatg] at this
        exact this
       clear hst HIH0 hYY hcs hatg
       go_wp2_with ((with_reducible refine wpList_idxN _ 0 E_ints F_int cInt1 (by with_unfolding_all rfl) (by with_unfolding_all rfl) (hFr) (HFL.out) (by first | omega | (simp; done)) (by first | omega | (simp; done)) (fun _ => by with_unfolding_all rfl) (fun _ => ?_)); rw [← HS.out])
       refine wp_regionK (C := Below (w2).heap.size (w2)) [0, 2, 4, 5, 6, 7] [_, _, _, _, _, _] 6 (by simp only [List.map_cons, List.map_nil, List.getElem?_toArray]; rfl) rfl (by kernel_rfl) (by kernel_rfl) (by kernel_rfl) (hbr.drew) ?_
       refine ⟨_, yieldsK_blkC (n := 4) A_rmach (by kernel_rfl) (fun V h => (h.block _ hlt2).trans q2) rfl (by with_unfolding_all rfl) (by with_unfolding_all rfl), ?_⟩
       go_frame
       refine ⟨_, yieldsK_val (by with_unfolding_all rfl) (fun w' => by with_unfolding_all exact rfl), ?_⟩
       go_frame
       refine ⟨_, yieldsK_val (by with_unfolding_all rfl) (fun w' => by with_unfolding_all exact rfl), ?_⟩
       go_frame
       refine ⟨_, yieldsK_val (by with_unfolding_all rfl) (fun w' => by with_unfolding_all exact rfl), ?_⟩
       go_frame
       refine ⟨_, yieldsK_idx (k := (k : Int)) (n := N) E_ints (by omega) (by omega) (by with_unfolding_all rfl) (by with_unfolding_all rfl) (by with_unfolding_all rfl), ?_⟩
       go_frame
       refine ⟨_, yieldsK_cell F_int hcell (by with_unfolding_all rfl) (by with_unfolding_all rfl), ?_⟩
       go_frame
       unfold wpPureK
       have hVd : ({ wr with drawn := wr.drawn + 1 } : World) = wr.drew := rfl
       rw [hVd]
       have hT0 : SL wr.heap.size wr wr.drew [] := (SL.nil wr).drew
       refine wpAnyC_on [1, 8] (by kernel_rfl) (by simp) ?_
       simp only [List.forall_mem_cons, List.not_mem_nil, false_implies, implies_true, and_true]
       refine ⟨?_, ?_⟩
       ·have hT1 := (hT0).call (SL.ofOwn (own_newN (e := 3) (w := wr.drew) cIntS [] 0 rfl (by decide) #[] rfl (Nat.le_refl _) rfl) (bal (Below.refl _ _) _))
        simp only [List.cons_append, List.nil_append] at hT1
        refine wpOp_value (v := .slice (some ⟨(wr.drew).heap.size, 0, none⟩) 0 0) (w' := (wr.drew).alloc (.cells #[] 3)) (by rw [List.getElem?_toArray]; rfl) (by with_unfolding_all rfl) (by first | (go_simp; done) | (go_simp; rfl) | (simp [execOp, Act.eval, Result.andThen]; done)) ?_
        refine ⟨bnext hbr hT1.b, ?_⟩
        go_frame
        obtain ⟨VhT1, hVhT1⟩ : ∃ V, V = (wr.drew).alloc (.cells #[] 3) := ⟨_, rfl⟩
        obtain ⟨nhT1, hnhT1⟩ : ∃ b, b = (wr.drew).heap.size := ⟨_, rfl⟩
        rw [← hVhT1, ← hnhT1] at hT1
        simp only [← hVhT1, ← hnhT1]
        clear hVhT1 hnhT1
        refine wpAnyC_on [3, 8] (by kernel_rfl) (by simp) ?_
        simp only [List.forall_mem_cons, List.not_mem_nil, false_implies, implies_true, and_true]
        refine ⟨?_, ?_⟩
        ·refine wpOp_of_list (by rw [List.getElem?_toArray]; rfl) ?_
         ((with_reducible refine wpList_appL 0 E_ints (by with_unfolding_all rfl) (by with_unfolding_all rfl) (hT1) (by with_unfolding_all rfl) ((hLr.below hT1.b)) (rfl) cIntO (by first | omega | (simp; omega)) (by first | omega | (simp; omega)) ?_); intro v2 w2 hT2)
         rw [List.nil_append] at hT2
         refine ⟨bnext hbr hT2.b, ?_⟩
         go_frame
         refine wpAnyC_on [8] (by kernel_rfl) (by simp) ?_
         simp only [List.forall_mem_cons, List.not_mem_nil, false_implies, implies_true, and_true]
         have hT3 := (hT2).call (SL.ofOwn (own_newN (e := 3) (w := w2) cIntS [s] 1 rfl (by decide) #[.int .i64 s] rfl (Nat.le_refl _) rfl) (bal (Below.refl _ _) _))
         simp only [List.cons_append, List.nil_append] at hT3
         refine wpOp_value (v := .slice (some ⟨(w2).heap.size, 0, none⟩) 1 1) (w' := (w2).alloc (.cells #[.int .i64 s] 3)) (by rw [List.getElem?_toArray]; rfl) (by with_unfolding_all rfl) (by first | (go_simp; done) | (go_simp; rfl) | (simp [execOp, Act.eval, Result.andThen]; done)) ?_
         refine ⟨bnext hbr hT3.b, ?_⟩
         go_frame
         obtain ⟨VhT3, hVhT3⟩ : ∃ V, V = (w2).alloc (.cells #[.int .i64 s] 3) := ⟨_, rfl⟩
         obtain ⟨nhT3, hnhT3⟩ : ∃ b, b = (w2).heap.size := ⟨_, rfl⟩
         rw [← hVhT3, ← hnhT3] at hT3
         simp only [← hVhT3, ← hnhT3]
         clear hVhT3 hnhT3
         refine wpAnyC_on [9] (by kernel_rfl) (by simp) ?_
         simp only [List.forall_mem_cons, List.not_mem_nil, false_implies, implies_true, and_true]
         refine wpOp_of_list (by rw [List.getElem?_toArray]; rfl) ?_
         have hRb := hT3.rd 0 rfl
         ((with_reducible refine wpList_appL 1 E_ints (by with_unfolding_all rfl) (by with_unfolding_all rfl) (hT3) (by with_unfolding_all rfl) (hRb) (rfl) cIntO (by first | omega | (simp; omega)) (by first | omega | (simp; omega)) ?_); intro v4 w4 hT4)
         refine ⟨bnext hbr hT4.b, ?_⟩
         go_frame
         obtain ⟨a9, c9, rfl, hr9⟩ := hT4.slice 1 rfl
         refine wpAnyC_on [10] (by kernel_rfl) (by simp) ?_
         simp only [List.forall_mem_cons, List.not_mem_nil, false_implies, implies_true, and_true]
         refine wpOp_call (f := 32) (args := #[mV m ad cap, .slice a9 (l ++ [s]).length c9]) (by rw [List.getElem?_toArray]; rfl) (by with_unfolding_all rfl) (by first | (go_simp; done) | (simp [execOp, Act.eval, Result.andThen]; done) | (simp [execOp, Act.eval, Result.andThen]; rfl)) ?_
         refine (HIH.out a9 c9 _ (hRr.below hT4.b) hr9).mono ?_
         rintro e w8 ⟨a8, c8, rfl, hY8, b8⟩
         have t8 := bnext hbr (bnext hT4.b b8)
         have hB8 := hBr.below (bnext hT4.b b8)
         refine ⟨_, rfl, t8, ?_⟩
         go_frame
         refine wpAnyC_on [11] (by kernel_rfl) (by simp) ?_
         simp only [List.forall_mem_cons, List.not_mem_nil, false_implies, implies_true, and_true]
         refine wpOp_value (v := .slice a8 Y.length c8) (w' := w8) (by rw [List.getElem?_toArray]; rfl) (by with_unfolding_all rfl) (by first | (go_simp; done) | (go_simp; rfl) | (simp [execOp, Act.eval, Result.andThen]; done)) ?_
         refine ⟨t8, ?_⟩
         go_frame
         refine wpAnyC_rest [] [] rfl rfl (by kernel_rfl) (by kernel_rfl) (by kernel_rfl) t8 ?_
         unfold wpPure
         refine of_wpList_nil (P := Tryz.prog) (ops := #[]) ?_
         clear hT4
         by_cases hYB : B.length < Y.length
         ·have hbg : bigger B Y = Y := by unfold bigger; rw [if_pos hYB]
          have hst2 := HST.out
          rw [hbg] at hst2
          have HS2 := hid hst2
          clear hst2 hbg
          go_wp2_with fail
          exact ⟨⟨k + 1, Y, a8, c8, by omega, rfl, by go_num, hY8, by omega, hY64, HS2.out, t8⟩, by simp [intOf]; omega⟩
         ·have hbg : bigger B Y = B := by unfold bigger; rw [if_neg hYB]
          have hst2 := HST.out
          rw [hbg] at hst2
          have HS2 := hid hst2
          clear hst2 hbg
          go_wp2_with fail
          exact ⟨⟨k + 1, B, ab, cb, by omega, rfl, by go_num, hB8, by omega, by omega, HS2.out, t8⟩, by simp [intOf]; omega⟩
        ·have hT2 := (hT1).call (SL.ofOwn (own_newN (e := 3) (w := VhT1) cIntS [s] 1 rfl (by decide) #[.int .i64 s] rfl (Nat.le_refl _) rfl) (bal (Below.refl _ _) _))
         simp only [List.cons_append, List.nil_append] at hT2
         refine wpOp_value (v := .slice (some ⟨(VhT1).heap.size, 0, none⟩) 1 1) (w' := (VhT1).alloc (.cells #[.int .i64 s] 3)) (by rw [List.getElem?_toArray]; rfl) (by with_unfolding_all rfl) (by first | (go_simp; done) | (go_simp; rfl) | (simp [execOp, Act.eval, Result.andThen]; done)) ?_
         refine ⟨bnext hbr hT2.b, ?_⟩
         go_frame
         obtain ⟨VhT2, hVhT2⟩ : ∃ V, V = (VhT1).alloc (.cells #[.int .i64 s] 3) := ⟨_, rfl⟩
         obtain ⟨nhT2, hnhT2⟩ : ∃ b, b = (VhT1).heap.size := ⟨_, rfl⟩
         rw [← hVhT2, ← hnhT2] at hT2
         simp only [← hVhT2, ← hnhT2]
         clear hVhT2 hnhT2
         refine wpAnyC_on [3] (by kernel_rfl) (by simp) ?_
         simp only [List.forall_mem_cons, List.not_mem_nil, false_implies, implies_true, and_true]
         refine wpOp_of_list (by rw [List.getElem?_toArray]; rfl) ?_
         ((with_reducible refine wpList_appL 1 E_ints (by with_unfolding_all rfl) (by with_unfolding_all rfl) (hT2) (by with_unfolding_all rfl) ((hLr.below hT2.b)) (rfl) cIntO (by first | omega | (simp; omega)) (by first | omega | (simp; omega)) ?_); intro v3 w3 hT3)
         rw [List.nil_append] at hT3
         refine ⟨bnext hbr hT3.b, ?_⟩
         go_frame
         refine wpAnyC_on [9] (by kernel_rfl) (by simp) ?_
         simp only [List.forall_mem_cons, List.not_mem_nil, false_implies, implies_true, and_true]
         refine wpOp_of_list (by rw [List.getElem?_toArray]; rfl) ?_
         have hRb := hT3.rd 0 rfl
         ((with_reducible refine wpList_appL 1 E_ints (by with_unfolding_all rfl) (by with_unfolding_all rfl) (hT3) (by with_unfolding_all rfl) (hRb) (rfl) cIntO (by first | omega | (simp; omega)) (by first | omega | (simp; omega)) ?_); intro v4 w4 hT4)
         refine ⟨bnext hbr hT4.b, ?_⟩
         go_frame
         obtain ⟨a9, c9, rfl, hr9⟩ := hT4.slice 1 rfl
         refine wpAnyC_on [10] (by kernel_rfl) (by simp) ?_
         simp only [List.forall_mem_cons, List.not_mem_nil, false_implies, implies_true, and_true]
         refine wpOp_call (f := 32) (args := #[mV m ad cap, .slice a9 (l ++ [s]).length c9]) (by rw [List.getElem?_toArray]; rfl) (by with_unfolding_all rfl) (by first | (go_simp; done) | (simp [execOp, Act.eval, Result.andThen]; done) | (simp [execOp, Act.eval, Result.andThen]; rfl)) ?_
         refine (HIH.out a9 c9 _ (hRr.below hT4.b) hr9).mono ?_
         rintro e w8 ⟨a8, c8, rfl, hY8, b8⟩
         have t8 := bnext hbr (bnext hT4.b b8)
         have hB8 := hBr.below (bnext hT4.b b8)
         refine ⟨_, rfl, t8, ?_⟩
         go_frame
         refine wpAnyC_on [11] (by kernel_rfl) (by simp) ?_
         simp only [List.forall_mem_cons, List.not_mem_nil, false_implies, implies_true, and_true]
         refine wpOp_value (v := .slice a8 Y.length c8) (w' := w8) (by rw [List.getElem?_toArray]; rfl) (by with_unfolding_all rfl) (by first | (go_simp; done) | (go_simp; rfl) | (simp [execOp, Act.eval, Result.andThen]; done)) ?_
         refine ⟨t8, ?_⟩
         go_frame
         refine wpAnyC_rest [] [] rfl rfl (by kernel_rfl) (by kernel_rfl) (by kernel_rfl) t8 ?_
         unfold wpPure
         refine of_wpList_nil (P := Tryz.prog) (ops := #[]) ?_
         clear hT4
         by_cases hYB : B.length < Y.length
         ·have hbg : bigger B Y = Y := by unfold bigger; rw [if_pos hYB]
          have hst2 := HST.out
          rw [hbg] at hst2
          have HS2 := hid hst2
          clear hst2 hbg
          go_wp2_with fail
          exact ⟨⟨k + 1, Y, a8, c8, by omega, rfl, by go_num, hY8, by omega, hY64, HS2.out, t8⟩, by simp [intOf]; omega⟩
         ·have hbg : bigger B Y = B := by unfold bigger; rw [if_neg hYB]
          have hst2 := HST.out
          rw [hbg] at hst2
          have HS2 := hid hst2
          clear hst2 hbg
          go_wp2_with fail
          exact ⟨⟨k + 1, B, ab, cb, by omega, rfl, by go_num, hB8, by omega, by omega, HS2.out, t8⟩, by simp [intOf]; omega⟩
       ·have hT1 := (hT0).call (SL.ofOwn (own_newN (e := 3) (w := wr.drew) cIntS [s] 1 rfl (by decide) #[.int .i64 s] rfl (Nat.le_refl _) rfl) (bal (Below.refl _ _) _))
        simp only [List.cons_append, List.nil_append] at hT1
        refine wpOp_value (v := .slice (some ⟨(wr.drew).heap.size, 0, none⟩) 1 1) (w' := (wr.drew).alloc (.cells #[.int .i64 s] 3)) (by rw [List.getElem?_toArray]; rfl) (by with_unfolding_all rfl) (by first | (go_simp; done) | (go_simp; rfl) | (simp [execOp, Act.eval, Result.andThen]; done)) ?_
        refine ⟨bnext hbr hT1.b, ?_⟩
        go_frame
        obtain ⟨VhT1, hVhT1⟩ : ∃ V, V = (wr.drew).alloc (.cells #[.int .i64 s] 3) := ⟨_, rfl⟩
        obtain ⟨nhT1, hnhT1⟩ : ∃ b, b = (wr.drew).heap.size := ⟨_, rfl⟩
        rw [← hVhT1, ← hnhT1] at hT1
        simp only [← hVhT1, ← hnhT1]
        clear hVhT1 hnhT1
        refine wpAnyC_on [1] (by kernel_rfl) (by simp) ?_
        simp only [List.forall_mem_cons, List.not_mem_nil, false_implies, implies_true, and_true]
        have hT2 := (hT1).call (SL.ofOwn (own_newN (e := 3) (w := VhT1) cIntS [] 0 rfl (by decide) #[] rfl (Nat.le_refl _) rfl) (bal (Below.refl _ _) _))
        simp only [List.cons_append, List.nil_append] at hT2
        refine wpOp_value (v := .slice (some ⟨(VhT1).heap.size, 0, none⟩) 0 0) (w' := (VhT1).alloc (.cells #[] 3)) (by rw [List.getElem?_toArray]; rfl) (by with_unfolding_all rfl) (by first | (go_simp; done) | (go_simp; rfl) | (simp [execOp, Act.eval, Result.andThen]; done)) ?_
        refine ⟨bnext hbr hT2.b, ?_⟩
        go_frame
        obtain ⟨VhT2, hVhT2⟩ : ∃ V, V = (VhT1).alloc (.cells #[] 3) := ⟨_, rfl⟩
        obtain ⟨nhT2, hnhT2⟩ : ∃ b, b = (VhT1).heap.size := ⟨_, rfl⟩
        rw [← hVhT2, ← hnhT2] at hT2
        simp only [← hVhT2, ← hnhT2]
        clear hVhT2 hnhT2
        refine wpAnyC_on [3] (by kernel_rfl) (by simp) ?_
        simp only [List.forall_mem_cons, List.not_mem_nil, false_implies, implies_true, and_true]
        refine wpOp_of_list (by rw [List.getElem?_toArray]; rfl) ?_
        ((with_reducible refine wpList_appL 0 E_ints (by with_unfolding_all rfl) (by with_unfolding_all rfl) (hT2) (by with_unfolding_all rfl) ((hLr.below hT2.b)) (rfl) cIntO (by first | omega | (simp; omega)) (by first | omega | (simp; omega)) ?_); intro v3 w3 hT3)
        rw [List.nil_append] at hT3
        refine ⟨bnext hbr hT3.b, ?_⟩
        go_frame
        refine wpAnyC_on [9] (by kernel_rfl) (by simp) ?_
        simp only [List.forall_mem_cons, List.not_mem_nil, false_implies, implies_true, and_true]
        refine wpOp_of_list (by rw [List.getElem?_toArray]; rfl) ?_
        have hRb := hT3.rd 1 rfl
        ((with_reducible refine wpList_appL 0 E_ints (by with_unfolding_all rfl) (by with_unfolding_all rfl) (hT3) (by with_unfolding_all rfl) (hRb) (rfl) cIntO (by first | omega | (simp; omega)) (by first | omega | (simp; omega)) ?_); intro v4 w4 hT4)
        refine ⟨bnext hbr hT4.b, ?_⟩
        go_frame
        obtain ⟨a9, c9, rfl, hr9⟩ := hT4.slice 0 rfl
        refine wpAnyC_on [10] (by kernel_rfl) (by simp) ?_
        simp only [List.forall_mem_cons, List.not_mem_nil, false_implies, implies_true, and_true]
        refine wpOp_call (f := 32) (args := #[mV m ad cap, .slice a9 (l ++ [s]).length c9]) (by rw [List.getElem?_toArray]; rfl) (by with_unfolding_all rfl) (by first | (go_simp; done) | (simp [execOp, Act.eval, Result.andThen]; done) | (simp [execOp, Act.eval, Result.andThen]; rfl)) ?_
        refine (HIH.out a9 c9 _ (hRr.below hT4.b) hr9).mono ?_
        rintro e w8 ⟨a8, c8, rfl, hY8, b8⟩
        have t8 := bnext hbr (bnext hT4.b b8)
        have hB8 := hBr.below (bnext hT4.b b8)
        refine ⟨_, rfl, t8, ?_⟩
        go_frame
        refine wpAnyC_on [11] (by kernel_rfl) (by simp) ?_
        simp only [List.forall_mem_cons, List.not_mem_nil, false_implies, implies_true, and_true]
        refine wpOp_value (v := .slice a8 Y.length c8) (w' := w8) (by rw [List.getElem?_toArray]; rfl) (by with_unfolding_all rfl) (by first | (go_simp; done) | (go_simp; rfl) | (simp [execOp, Act.eval, Result.andThen]; done)) ?_
        refine ⟨t8, ?_⟩
        go_frame
        refine wpAnyC_rest [] [] rfl rfl (by kernel_rfl) (by kernel_rfl) (by kernel_rfl) t8 ?_
        unfold wpPure
        refine of_wpList_nil (P := Tryz.prog) (ops := #[]) ?_
        clear hT4
        by_cases hYB : B.length < Y.length
        ·have hbg : bigger B Y = Y := by unfold bigger; rw [if_pos hYB]
         have hst2 := HST.out
         rw [hbg] at hst2
         have HS2 := hid hst2
         clear hst2 hbg
         go_wp2_with fail
         exact ⟨⟨k + 1, Y, a8, c8, by omega, rfl, by go_num, hY8, by omega, hY64, HS2.out, t8⟩, by simp [intOf]; omega⟩
        ·have hbg : bigger B Y = B := by unfold bigger; rw [if_neg hYB]
         have hst2 := HST.out
         rw [hbg] at hst2
         have HS2 := hid hst2
         clear hst2 hbg
         go_wp2_with fail
         exact ⟨⟨k + 1, B, ab, cb, by omega, rfl, by go_num, hB8, by omega, by omega, HS2.out, t8⟩, by simp [intOf]; omega⟩
      ·rw [if_neg (fun h => hcn h.2)] at hst
       have HST := hid hst.symm
       clear hst hcells
       go_wp2_with ((with_reducible refine wpList_idxN _ 0 E_ints F_int cInt1 (by with_unfolding_all rfl) (by with_unfolding_all rfl) (hFr) (HFL.out) (by first | omega | (simp; done)) (by first | omega | (simp; done)) (fun _ => by with_unfolding_all rfl) (fun _ => ?_)); rw [← HS.out])
       exact ⟨⟨k + 1, B, ab, cb, by omega, rfl, by go_num, hBr, hlB, hB64, HST.out, hbr⟩, by simp [intOf]; omega⟩
     ·have hld : decide ((-1 : Int) < s) = false := decide_eq_false hls
      rw [if_neg (fun h => hls h.1)] at hst
      have HST := hid hst.symm
      clear hst hcells
      go_wp2_with ((with_reducible refine wpList_idxN _ 0 E_ints F_int cInt1 (by with_unfolding_all rfl) (by with_unfolding_all rfl) (hFr) (HFL.out) (by first | omega | (simp; done)) (by first | omega | (simp; done)) (fun _ => by with_unfolding_all rfl) (fun _ => ?_)); rw [← HS.out])
      exact ⟨⟨k + 1, B, ab, cb, by omega, rfl, by go_num, hBr, hlB, hB64, HST.out, hbr⟩, by simp [intOf]; omega⟩
    ·have hkn : k = FL.length := by rw [← HN.out]; omega
     rw [hkn, HFE.out] at hgo
     have hBX : B = X := hgo
     clear hgo hkn
     subst hBX
     go_wp2_with fail
     go_ret
     exact ⟨ab, cb, rfl, hBr, bnext hW2 hbr⟩
  ·have hd : decide (0 < l.length) = true := decide_eq_true hlp
   have hli : 0 ≤ (l.length : Int) - 1 ∧ (l.length : Int) - 1 < l.length := by omega
   have HLA := hid hla
   clear hla
   have hL1 := hL.below hS.b
   go_enter Tryz.func32, Tryz.ntmps32
   go_wp2_with ((with_reducible refine wpList_idx _ 0 E_ints F_int cInt1 (by with_unfolding_all rfl) (by with_unfolding_all rfl) (hL1) (by first | omega | (simp; done)) (by first | omega | (simp; done)) (fun _ => by with_unfolding_all rfl) (fun _ => ?_)); rw [HLA.out])
   refine (HFR.out _ (hR.below hS.b) (hL.below hS.b)).mono ?_
   rintro e w2 ⟨v2, rfl, ho2, b2⟩
   obtain ⟨a2, c2, rfl, h2, _, _⟩ := ho2.reps
   have hS2 := hS.mono b2
   have q2 := (hS2.blk 0 rfl).1
   have hlt2 := (hS2.blk 0 rfl).2.2
   have hL2 := hL.below hS2.b
   have hR2 := hR.below hS2.b
   have hW2 := hS2.b
   rw [← HN.out]
   clear hS hS2 ho2 b2
   go_wp2_with fail
   go_loopw [5, 8, 9] (fun bo i _ wr => ∃ (k : Nat) (B : List Int) (ab : Option Addr) (cb : Nat), k ≤ N ∧ bo = .slice ab B.length cb ∧ i = .int .i64 k ∧ Ints wr ab cb B ∧ l.length ≤ B.length ∧ B.length ≤ 64 ∧ refS m n l last B (FL.drop k) = X ∧ Below w2.heap.size w2 wr) (fun _ i _ _ => N - (intOf i).toNat)
   case atStart => exact ⟨0, l, al, cl, by omega, rfl, rfl, hL2, by omega, hl64, HX.out, Below.refl _ _⟩
   case round =>
    obtain ⟨k, B, ab, cb, hk, rfl, rfl, hBr, hlB, hB64, hgo, hbr⟩ := hrel
    have hLr := hL2.below hbr
    have hRr := hR2.below hbr
    have hFr := h2.below hbr
    by_cases hlt : k < N
    ·have hst := HST.out k B (by rw [← HN.out]; exact hlt)
     have hsr := HFRG.out k (by rw [← HN.out]; exact hlt)
     rw [hgo, ← HN.out] at hst
     have hcells := h2.cells (by decide) 0 k (by rw [← HN.out]; exact hlt)
     have hatg : FL.getD k 0 = atD 0 FL k := rfl
     obtain ⟨s, hs⟩ : ∃ s, s = atD 0 FL k := ⟨_, rfl⟩
     rw [← hs] at hst hsr hatg
     have HS := hid hs
     have HFL : Hid (FL.length = N) := hid HN.out.symm
     clear hgo hs
     by_cases hls : last < s
     ·have hld : decide (last < s) = true := decide_eq_true hls
      by_cases hcn : B.length + k < l.length + N
      ·rw [if_pos ⟨hls, hcn⟩] at hst
       have HIH0 := fun a c w h h2 => HIHA.out s a c w h h2 hsr.1 hsr.2 hls
       have hY64 := HBL.out s hsr.1 hsr.2 hls
       obtain ⟨Y, hYY⟩ : ∃ Y, Y = bestF m (n - (s + 1).toNat) (l ++ [s]) (s + 1) := ⟨_, rfl⟩
       rw [← hYY] at hst hY64
       simp only [← hYY] at HIH0
       have HIH := hid HIH0; have HST := hid hst.symm
       obtain ⟨bf, of, rfl, hcs⟩ := hcells
       have hcell : w2.cell? ⟨bf, of + k * 1, none⟩ = some (.int .i64 s) := by
        have := hcs 0 (cInt (FL.getD k 0)) rfl
        rw [hatg] at this
        exact this
       clear hst HIH0 hYY hcs hatg
       go_wp2_with ((with_reducible refine wpList_idxN _ 0 E_ints F_int cInt1 (by with_unfolding_all rfl) (by with_unfolding_all rfl) (hFr) (HFL.out) (by first | omega | (simp; done)) (by first | omega | (simp; done)) (fun _ => by with_unfolding_all rfl) (fun _ => ?_)); rw [← HS.out])
       refine wp_regionK (C := Below (w2).heap.size (w2)) [0, 2, 4, 5, 6, 7] [_, _, _, _, _, _] 6 (by simp only [List.map_cons, List.map_nil, List.getElem?_toArray]; rfl) rfl (by kernel_rfl) (by kernel_rfl) (by kernel_rfl) (hbr.drew) ?_
       refine ⟨_, yieldsK_blkC (n := 4) A_rmach (by kernel_rfl) (fun V h => (h.block _ hlt2).trans q2) rfl (by with_unfolding_all rfl) (by with_unfolding_all rfl), ?_⟩
       go_frame
       refine ⟨_, yieldsK_val (by with_unfolding_all rfl) (fun w' => by with_unfolding_all exact rfl), ?_⟩
       go_frame
       refine ⟨_, yieldsK_val (by with_unfolding_all rfl) (fun w' => by with_unfolding_all exact rfl), ?_⟩
       go_frame
       refine ⟨_, yieldsK_val (by with_unfolding_all rfl) (fun w' => by with_unfolding_all exact rfl), ?_⟩
       go_frame
       refine ⟨_, yieldsK_idx (k := (k : Int)) (n := N) E_ints (by omega) (by omega) (by with_unfolding_all rfl) (by with_unfolding_all rfl) (by with_unfolding_all rfl), ?_⟩
       go_frame
       refine ⟨_, yieldsK_cell F_int hcell (by with_unfolding_all rfl) (by with_unfolding_all rfl), ?_⟩
       go_frame
       unfold wpPureK
       have hVd : ({ wr with drawn := wr.drawn + 1 } : World) = wr.drew := rfl
       rw [hVd]
       have hT0 : SL wr.heap.size wr wr.drew [] := (SL.nil wr).drew
       refine wpAnyC_on [1, 8] (by kernel_rfl) (by simp) ?_
       simp only [List.forall_mem_cons, List.not_mem_nil, false_implies, implies_true, and_true]
       refine ⟨?_, ?_⟩
       ·have hT1 := (hT0).call (SL.ofOwn (own_newN (e := 3) (w := wr.drew) cIntS [] 0 rfl (by decide) #[] rfl (Nat.le_refl _) rfl) (bal (Below.refl _ _) _))
        simp only [List.cons_append, List.nil_append] at hT1
        refine wpOp_value (v := .slice (some ⟨(wr.drew).heap.size, 0, none⟩) 0 0) (w' := (wr.drew).alloc (.cells #[] 3)) (by rw [List.getElem?_toArray]; rfl) (by with_unfolding_all rfl) (by first | (go_simp; done) | (go_simp; rfl) | (simp [execOp, Act.eval, Result.andThen]; done)) ?_
        refine ⟨bnext hbr hT1.b, ?_⟩
        go_frame
        obtain ⟨VhT1, hVhT1⟩ : ∃ V, V = (wr.drew).alloc (.cells #[] 3) := ⟨_, rfl⟩
        obtain ⟨nhT1, hnhT1⟩ : ∃ b, b = (wr.drew).heap.size := ⟨_, rfl⟩
        rw [← hVhT1, ← hnhT1] at hT1
        simp only [← hVhT1, ← hnhT1]
        clear hVhT1 hnhT1
        refine wpAnyC_on [3, 8] (by kernel_rfl) (by simp) ?_
        simp only [List.forall_mem_cons, List.not_mem_nil, false_implies, implies_true, and_true]
        refine ⟨?_, ?_⟩
        ·refine wpOp_of_list (by rw [List.getElem?_toArray]; rfl) ?_
         ((with_reducible refine wpList_appL 0 E_ints (by with_unfolding_all rfl) (by with_unfolding_all rfl) (hT1) (by with_unfolding_all rfl) ((hLr.below hT1.b)) (rfl) cIntO (by first | omega | (simp; omega)) (by first | omega | (simp; omega)) ?_); intro v2 w2 hT2)
         rw [List.nil_append] at hT2
         refine ⟨bnext hbr hT2.b, ?_⟩
         go_frame
         refine wpAnyC_on [8] (by kernel_rfl) (by simp) ?_
         simp only [List.forall_mem_cons, List.not_mem_nil, false_implies, implies_true, and_true]
         have hT3 := (hT2).call (SL.ofOwn (own_newN (e := 3) (w := w2) cIntS [s] 1 rfl (by decide) #[.int .i64 s] rfl (Nat.le_refl _) rfl) (bal (Below.refl _ _) _))
         simp only [List.cons_append, List.nil_append] at hT3
         refine wpOp_value (v := .slice (some ⟨(w2).heap.size, 0, none⟩) 1 1) (w' := (w2).alloc (.cells #[.int .i64 s] 3)) (by rw [List.getElem?_toArray]; rfl) (by with_unfolding_all rfl) (by first | (go_simp; done) | (go_simp; rfl) | (simp [execOp, Act.eval, Result.andThen]; done)) ?_
         refine ⟨bnext hbr hT3.b, ?_⟩
         go_frame
         obtain ⟨VhT3, hVhT3⟩ : ∃ V, V = (w2).alloc (.cells #[.int .i64 s] 3) := ⟨_, rfl⟩
         obtain ⟨nhT3, hnhT3⟩ : ∃ b, b = (w2).heap.size := ⟨_, rfl⟩
         rw [← hVhT3, ← hnhT3] at hT3
         simp only [← hVhT3, ← hnhT3]
         clear hVhT3 hnhT3
         refine wpAnyC_on [9] (by kernel_rfl) (by simp) ?_
         simp only [List.forall_mem_cons, List.not_mem_nil, false_implies, implies_true, and_true]
         refine wpOp_of_list (by rw [List.getElem?_toArray]; rfl) ?_
         have hRb := hT3.rd 0 rfl
         ((with_reducible refine wpList_appL 1 E_ints (by with_unfolding_all rfl) (by with_unfolding_all rfl) (hT3) (by with_unfolding_all rfl) (hRb) (rfl) cIntO (by first | omega | (simp; omega)) (by first | omega | (simp; omega)) ?_); intro v4 w4 hT4)
         refine ⟨bnext hbr hT4.b, ?_⟩
         go_frame
         obtain ⟨a9, c9, rfl, hr9⟩ := hT4.slice 1 rfl
         refine wpAnyC_on [10] (by kernel_rfl) (by simp) ?_
         simp only [List.forall_mem_cons, List.not_mem_nil, false_implies, implies_true, and_true]
         refine wpOp_call (f := 32) (args := #[mV m ad cap, .slice a9 (l ++ [s]).length c9]) (by rw [List.getElem?_toArray]; rfl) (by with_unfolding_all rfl) (by first | (go_simp; done) | (simp [execOp, Act.eval, Result.andThen]; done) | (simp [execOp, Act.eval, Result.andThen]; rfl)) ?_
         refine (HIH.out a9 c9 _ (hRr.below hT4.b) hr9).mono ?_
         rintro e w8 ⟨a8, c8, rfl, hY8, b8⟩
         have t8 := bnext hbr (bnext hT4.b b8)
         have hB8 := hBr.below (bnext hT4.b b8)
         refine ⟨_, rfl, t8, ?_⟩
         go_frame
         refine wpAnyC_on [11] (by kernel_rfl) (by simp) ?_
         simp only [List.forall_mem_cons, List.not_mem_nil, false_implies, implies_true, and_true]
         refine wpOp_value (v := .slice a8 Y.length c8) (w' := w8) (by rw [List.getElem?_toArray]; rfl) (by with_unfolding_all rfl) (by first | (go_simp; done) | (go_simp; rfl) | (simp [execOp, Act.eval, Result.andThen]; done)) ?_
         refine ⟨t8, ?_⟩
         go_frame
         refine wpAnyC_rest [] [] rfl rfl (by kernel_rfl) (by kernel_rfl) (by kernel_rfl) t8 ?_
         unfold wpPure
         refine of_wpList_nil (P := Tryz.prog) (ops := #[]) ?_
         clear hT4
         by_cases hYB : B.length < Y.length
         ·have hbg : bigger B Y = Y := by unfold bigger; rw [if_pos hYB]
          have hst2 := HST.out
          rw [hbg] at hst2
          have HS2 := hid hst2
          clear hst2 hbg
          go_wp2_with fail
          exact ⟨⟨k + 1, Y, a8, c8, by omega, rfl, by go_num, hY8, by omega, hY64, HS2.out, t8⟩, by simp [intOf]; omega⟩
         ·have hbg : bigger B Y = B := by unfold bigger; rw [if_neg hYB]
          have hst2 := HST.out
          rw [hbg] at hst2
          have HS2 := hid hst2
          clear hst2 hbg
          go_wp2_with fail
          exact ⟨⟨k + 1, B, ab, cb, by omega, rfl, by go_num, hB8, by omega, by omega, HS2.out, t8⟩, by simp [intOf]; omega⟩
        ·have hT2 := (hT1).call (SL.ofOwn (own_newN (e := 3) (w := VhT1) cIntS [s] 1 rfl (by decide) #[.int .i64 s] rfl (Nat.le_refl _) rfl) (bal (Below.refl _ _) _))
         simp only [List.cons_append, List.nil_append] at hT2
         refine wpOp_value (v := .slice (some ⟨(VhT1).heap.size, 0, none⟩) 1 1) (w' := (VhT1).alloc (.cells #[.int .i64 s] 3)) (by rw [List.getElem?_toArray]; rfl) (by with_unfolding_all rfl) (by first | (go_simp; done) | (go_simp; rfl) | (simp [execOp, Act.eval, Result.andThen]; done)) ?_
         refine ⟨bnext hbr hT2.b, ?_⟩
         go_frame
         obtain ⟨VhT2, hVhT2⟩ : ∃ V, V = (VhT1).alloc (.cells #[.int .i64 s] 3) := ⟨_, rfl⟩
         obtain ⟨nhT2, hnhT2⟩ : ∃ b, b = (VhT1).heap.size := ⟨_, rfl⟩
         rw [← hVhT2, ← hnhT2] at hT2
         simp only [← hVhT2, ← hnhT2]
         clear hVhT2 hnhT2
         refine wpAnyC_on [3] (by kernel_rfl) (by simp) ?_
         simp only [List.forall_mem_cons, List.not_mem_nil, false_implies, implies_true, and_true]
         refine wpOp_of_list (by rw [List.getElem?_toArray]; rfl) ?_
         ((with_reducible refine wpList_appL 1 E_ints (by with_unfolding_all rfl) (by with_unfolding_all rfl) (hT2) (by with_unfolding_all rfl) ((hLr.below hT2.b)) (rfl) cIntO (by first | omega | (simp; omega)) (by first | omega | (simp; omega)) ?_); intro v3 w3 hT3)
         rw [List.nil_append] at hT3
         refine ⟨bnext hbr hT3.b, ?_⟩
         go_frame
         refine wpAnyC_on [9] (by kernel_rfl) (by simp) ?_
         simp only [List.forall_mem_cons, List.not_mem_nil, false_implies, implies_true, and_true]
         refine wpOp_of_list (by rw [List.getElem?_toArray]; rfl) ?_
         have hRb := hT3.rd 0 rfl
         ((with_reducible refine wpList_appL 1 E_ints (by with_unfolding_all rfl) (by with_unfolding_all rfl) (hT3) (by with_unfolding_all rfl) (hRb) (rfl) cIntO (by first | omega | (simp; omega)) (by first | omega | (simp; omega)) ?_); intro v4 w4 hT4)
         refine ⟨bnext hbr hT4.b, ?_⟩
         go_frame
         obtain ⟨a9, c9, rfl, hr9⟩ := hT4.slice 1 rfl
         refine wpAnyC_on [10] (by kernel_rfl) (by simp) ?_
         simp only [List.forall_mem_cons, List.not_mem_nil, false_implies, implies_true, and_true]
         refine wpOp_call (f := 32) (args := #[mV m ad cap, .slice a9 (l ++ [s]).length c9]) (by rw [List.getElem?_toArray]; rfl) (by with_unfolding_all rfl) (by first | (go_simp; done) | (simp [execOp, Act.eval, Result.andThen]; done) | (simp [execOp, Act.eval, Result.andThen]; rfl)) ?_
         refine (HIH.out a9 c9 _ (hRr.below hT4.b) hr9).mono ?_
         rintro e w8 ⟨a8, c8, rfl, hY8, b8⟩
         have t8 := bnext hbr (bnext hT4.b b8)
         have hB8 := hBr.below (bnext hT4.b b8)
         refine ⟨_, rfl, t8, ?_⟩
         go_frame
         refine wpAnyC_on [11] (by kernel_rfl) (by simp) ?_
         simp only [List.forall_mem_cons, List.not_mem_nil, false_implies, implies_true, and_true]
         refine wpOp_value (v := .slice a8 Y.length c8) (w' := w8) (by rw [List.getElem?_toArray]; rfl) (by with_unfolding_all rfl) (by first | (go_simp; done) | (go_simp; rfl) | (simp [execOp, Act.eval, Result.andThen]; done)) ?_
         refine ⟨t8, ?_⟩
         go_frame
         refine wpAnyC_rest [] [] rfl rfl (by kernel_rfl) (by kernel_rfl) (by kernel_rfl) t8 ?_
         unfold wpPure
         refine of_wpList_nil (P := Tryz.prog) (ops := #[]) ?_
         clear hT4
         by_cases hYB : B.length < Y.length
         ·have hbg : bigger B Y = Y := by unfold bigger; rw [if_pos hYB]
          have hst2 := HST.out
          rw [hbg] at hst2
          have HS2 := hid hst2
          clear hst2 hbg
          go_wp2_with fail
          exact ⟨⟨k + 1, Y, a8, c8, by omega, rfl, by go_num, hY8, by omega, hY64, HS2.out, t8⟩, by simp [intOf]; omega⟩
         ·have hbg : bigger B Y = B := by unfold bigger; rw [if_neg hYB]
          have hst2 := HST.out
          rw [hbg] at hst2
          have HS2 := hid hst2
          clear hst2 hbg
          go_wp2_with fail
          exact ⟨⟨k + 1, B, ab, cb, by omega, rfl, by go_num, hB8, by omega, by omega, HS2.out, t8⟩, by simp [intOf]; omega⟩
       ·have hT1 := (hT0).call (SL.ofOwn (own_newN (e := 3) (w := wr.drew) cIntS [s] 1 rfl (by decide) #[.int .i64 s] rfl (Nat.le_refl _) rfl) (bal (Below.refl _ _) _))
        simp only [List.cons_append, List.nil_append] at hT1
        refine wpOp_value (v := .slice (some ⟨(wr.drew).heap.size, 0, none⟩) 1 1) (w' := (wr.drew).alloc (.cells #[.int .i64 s] 3)) (by rw [List.getElem?_toArray]; rfl) (by with_unfolding_all rfl) (by first | (go_simp; done) | (go_simp; rfl) | (simp [execOp, Act.eval, Result.andThen]; done)) ?_
        refine ⟨bnext hbr hT1.b, ?_⟩
        go_frame
        obtain ⟨VhT1, hVhT1⟩ : ∃ V, V = (wr.drew).alloc (.cells #[.int .i64 s] 3) := ⟨_, rfl⟩
        obtain ⟨nhT1, hnhT1⟩ : ∃ b, b = (wr.drew).heap.size := ⟨_, rfl⟩
        rw [← hVhT1, ← hnhT1] at hT1
        simp only [← hVhT1, ← hnhT1]
        clear hVhT1 hnhT1
        refine wpAnyC_on [1] (by kernel_rfl) (by simp) ?_
        simp only [List.forall_mem_cons, List.not_mem_nil, false_implies, implies_true, and_true]
        have hT2 := (hT1).call (SL.ofOwn (own_newN (e := 3) (w := VhT1) cIntS [] 0 rfl (by decide) #[] rfl (Nat.le_refl _) rfl) (bal (Below.refl _ _) _))
        simp only [List.cons_append, List.nil_append] at hT2
        refine wpOp_value (v := .slice (some ⟨(VhT1).heap.size, 0, none⟩) 0 0) (w' := (VhT1).alloc (.cells #[] 3)) (by rw [List.getElem?_toArray]; rfl) (by with_unfolding_all rfl) (by first | (go_simp; done) | (go_simp; rfl) | (simp [execOp, Act.eval, Result.andThen]; done)) ?_
        refine ⟨bnext hbr hT2.b, ?_⟩
        go_frame
        obtain ⟨VhT2, hVhT2⟩ : ∃ V, V = (VhT1).alloc (.cells #[] 3) := ⟨_, rfl⟩
        obtain ⟨nhT2, hnhT2⟩ : ∃ b, b = (VhT1).heap.size := ⟨_, rfl⟩
        rw [← hVhT2, ← hnhT2] at hT2
        simp only [← hVhT2, ← hnhT2]
        clear hVhT2 hnhT2
        refine wpAnyC_on [3] (by kernel_rfl) (by simp) ?_
        simp only [List.forall_mem_cons, List.not_mem_nil, false_implies, implies_true, and_true]
        refine wpOp_of_list (by rw [List.getElem?_toArray]; rfl) ?_
        ((with_reducible refine wpList_appL 0 E_ints (by with_unfolding_all rfl) (by with_unfolding_all rfl) (hT2) (by with_unfolding_all rfl) ((hLr.below hT2.b)) (rfl) cIntO (by first | omega | (simp; omega)) (by first | omega | (simp; omega)) ?_); intro v3 w3 hT3)
        rw [List.nil_append] at hT3
        refine ⟨bnext hbr hT3.b, ?_⟩
        go_frame
        refine wpAnyC_on [9] (by kernel_rfl) (by simp) ?_
        simp only [List.forall_mem_cons, List.not_mem_nil, false_implies, implies_true, and_true]
        refine wpOp_of_list (by rw [List.getElem?_toArray]; rfl) ?_
        have hRb := hT3.rd 1 rfl
        ((with_reducible refine wpList_appL 0 E_ints (by with_unfolding_all rfl) (by with_unfolding_all rfl) (hT3) (by with_unfolding_all rfl) (hRb) (rfl) cIntO (by first | omega | (simp; omega)) (by first | omega | (simp; omega)) ?_); intro v4 w4 hT4)
        refine ⟨bnext hbr hT4.b, ?_⟩
        go_frame
        obtain ⟨a9, c9, rfl, hr9⟩ := hT4.slice 0 rfl
        refine wpAnyC_on [10] (by kernel_rfl) (by simp) ?_
        simp only [List.forall_mem_cons, List.not_mem_nil, false_implies, implies_true, and_true]
        refine wpOp_call (f := 32) (args := #[mV m ad cap, .slice a9 (l ++ [s]).length c9]) (by rw [List.getElem?_toArray]; rfl) (by with_unfolding_all rfl) (by first | (go_simp; done) | (simp [execOp, Act.eval, Result.andThen]; done) | (simp [execOp, Act.eval, Result.andThen]; rfl)) ?_
        refine (HIH.out a9 c9 _ (hRr.below hT4.b) hr9).mono ?_
        rintro e w8 ⟨a8, c8, rfl, hY8, b8⟩
        have t8 := bnext hbr (bnext hT4.b b8)
        have hB8 := hBr.below (bnext hT4.b b8)
        refine ⟨_, rfl, t8, ?_⟩
        go_frame
        refine wpAnyC_on [11] (by kernel_rfl) (by simp) ?_
        simp only [List.forall_mem_cons, List.not_mem_nil, false_implies, implies_true, and_true]
        refine wpOp_value (v := .slice a8 Y.length c8) (w' := w8) (by rw [List.getElem?_toArray]; rfl) (by with_unfolding_all rfl) (by first | (go_simp; done) | (go_simp; rfl) | (simp [execOp, Act.eval, Result.andThen]; done)) ?_
        refine ⟨t8, ?_⟩
        go_frame
        refine wpAnyC_rest [] [] rfl rfl (by kernel_rfl) (by kernel_rfl) (by kernel_rfl) t8 ?_
        unfold wpPure
        refine of_wpList_nil (P := Tryz.prog) (ops := #[]) ?_
        clear hT4
        by_cases hYB : B.length < Y.length
        ·have hbg : bigger B Y = Y := by unfold bigger; rw [if_pos hYB]
         have hst2 := HST.out
         rw [hbg] at hst2
         have HS2 := hid hst2
         clear hst2 hbg
         go_wp2_with fail
         exact ⟨⟨k + 1, Y, a8, c8, by omega, rfl, by go_num, hY8, by omega, hY64, HS2.out, t8⟩, by simp [intOf]; omega⟩
        ·have hbg : bigger B Y = B := by unfold bigger; rw [if_neg hYB]
         have hst2 := HST.out
         rw [hbg] at hst2
         have HS2 := hid hst2
         clear hst2 hbg
         go_wp2_with fail
         exact ⟨⟨k + 1, B, ab, cb, by omega, rfl, by go_num, hB8, by omega, by omega, HS2.out, t8⟩, by simp [intOf]; omega⟩
      ·rw [if_neg (fun h => hcn h.2)] at hst
       have HST := hid hst.symm
       clear hst hcells
       go_wp2_with ((with_reducible refine wpList_idxN _ 0 E_ints F_int cInt1 (by with_unfolding_all rfl) (by with_unfolding_all rfl) (hFr) (HFL.out) (by first | omega | (simp; done)) (by first | omega | (simp; done)) (fun _ => by with_unfolding_all rfl) (fun _ => ?_)); rw [← HS.out])
       exact ⟨⟨k + 1, B, ab, cb, by omega, rfl, by go_num, hBr, hlB, hB64, HST.out, hbr⟩, by simp [intOf]; omega⟩
     ·have hld : decide (last < s) = false := decide_eq_false hls
      rw [if_neg (fun h => hls h.1)] at hst
      have HST := hid hst.symm
      clear hst hcells
      go_wp2_with ((with_reducible refine wpList_idxN _ 0 E_ints F_int cInt1 (by with_unfolding_all rfl) (by with_unfolding_all rfl) (hFr) (HFL.out) (by first | omega | (simp; done)) (by first | omega | (simp; done)) (fun _ => by with_unfolding_all rfl) (fun _ => ?_)); rw [← HS.out])
      exact ⟨⟨k + 1, B, ab, cb, by omega, rfl, by go_num, hBr, hlB, hB64, HST.out, hbr⟩, by simp [intOf]; omega⟩
    ·have hkn : k = FL.length := by rw [← HN.out]; omega
     rw [hkn, HFE.out] at hgo
     have hBX : B = X := hgo
     clear hgo hkn
     subst hBX
     go_wp2_with fail
     go_ret
     exact ⟨ab, cb, rfl, hBr, bnext hW2 hbr⟩
end Go.Proofs.YtbchpkmcpplidaaGreatDoor
