/- A map that counts the numbers of a list, made by a call: look-ups, stores, its length. Conditions: the numbers fit an int. -/
import Derived.Test.YtmomeggnegcheaaGreatDoorRtP
import Derived.Test.YtmomeggnegcheaaGreatDoorSlB
import Derived.Test.YtmomeggnegcheaaGreatDoorRlB
set_option linter.all false
namespace Go.Proofs.YtmomeggnegcheaaGreatDoor
open Go.RowKit Go.Maps
set_option maxRecDepth 100000

def CntM (w : World) (b n : Nat) (l : List Int) : Prop := ∃ D : DataW Unit, w.ownsMap Tryz.prog 3 (plainElem Tryz.prog 3) b n D ∧ CntD D l
theorem cntM_made (w : World) : CntM (w.alloc (.map #[] 0)) w.heap.size 0 [] := ⟨.map [], World.ownsMap_made _ _ _ _, cntD_nil⟩
theorem CntM.kept {w w' : World} {b n : Nat} {l : List Int} {row : Option Nat} (h : CntM w b n l) (hg : w.grownBy w' row) (hne : some b ≠ row) : CntM w' b n l := by
  obtain ⟨D, h1, h2⟩ := h; exact ⟨D, h1.kept hg hne, h2⟩
theorem CntM.lt {w : World} {b n : Nat} {l : List Int} (h : CntM w b n l) : b < w.heap.size := by obtain ⟨D, h1, _⟩ := h; exact h1.lt
theorem CntM.look {w : World} {b n : Nat} {l : List Int} (h : CntM w b n l) {k : Int} (hk : InI k) : (Instr.lookup 50 (.map (some b)) (.int .i64 k) false).run Tryz.prog w = .ok (.int .i64 (l.count k)) w := by
  obtain ⟨D, h1, h2⟩ := h
  obtain ⟨x, hrun, hat, _⟩ := h1.lookup_int keyI Tryz.underlying50 Tryz.underlying3 (zeroI w) (keyOfI hk)
  rw [h2.at0 k] at hat
  simp only [DataW.lit.injEq, Lit.int.injEq, true_and] at hat
  rw [hrun, hat]
theorem CntM.put {w : World} {b n : Nat} {l : List Int} (h : CntM w b n l) {k : Int} (hk : InI k) (hl : l.length ≤ 1048576) (hn : n < maxLen) :
   ∃ w', (Instr.mapUpdate 50 (.map (some b)) (.int .i64 k) (.int .i64 ((l.count k : Int) + 1))).run Tryz.prog w = .ok () w' ∧ CntM w' b (n + 1) (l ++ [k]) ∧ w.grownBy w' (some b) := by
  obtain ⟨D, h1, h2⟩ := h
  have hc : l.count k ≤ l.length := List.count_le_length
  have hv : InI ((l.count k : Int) + 1) := by unfold InI; omega
  obtain ⟨w', hrun, ho, hg⟩ := h1.update keyI Tryz.underlying50 hn (keyOfI hk) (plainElem_int Tryz.underlying3 hv.wf)
  exact ⟨w', hrun, ⟨_, ho, h2.step (keyI.key (keyOfI hk))⟩, hg⟩
theorem CntM.len {w : World} {b n : Nat} {l : List Int} (h : CntM w b n l) : ∃ z : Nat, (∀ ty, (Builtin.len_ #[50] ty #[.map (some b)]).run Tryz.prog w = .ok (.int .i64 z) w) ∧
    ∀ (b' n' : Nat) (m : List Int), CntM w b' n' m → (∀ x, m.count x = l.count x) → ∀ ty, (Builtin.len_ #[50] ty #[.map (some b')]).run Tryz.prog w = .ok (.int .i64 z) w := by
  obtain ⟨D, h1, h2⟩ := h
  refine ⟨Maps.size D, fun ty => h1.len Tryz.underlying50 ty, fun b' n' m hm hc ty => ?_⟩
  obtain ⟨E, g1, g2⟩ := hm
  have e := h2.same g2 (h1.canon keyI) (g1.canon keyI) hc
  rw [e]
  exact g1.len Tryz.underlying50 ty
def pCnt (k n : Nat) (l : List Int) : Pc where
  P w b := b = some k ∧ CntM w k n l
  lt w j h := by obtain ⟨h1, h2⟩ := h; cases h1; exact h2.lt
  loc w w' row b h hg hne := ⟨h.1, h.2.kept hg (fun e => hne k h.1 e.symm)⟩
theorem SL.cnt {B : Nat} {w0 w : World} {L : List Pc} {k n : Nat} {l : List Int} (h : SL B w0 w L) (i : Nat) (hi : L[i]? = some (pCnt k n l)) : CntM w k n l := by
  obtain ⟨b, ⟨_, h1⟩, _⟩ := h.upd i hi
  exact h1
theorem SL.madeCnt {B : Nat} {w0 w : World} {L : List Pc} (h : SL B w0 w L) : SL B w0 (w.alloc (.map #[] 0)) (pCnt w.heap.size 0 [] :: L) :=
  h.new _ (b := some w.heap.size) (World.grownBy_alloc w _ .none) ⟨rfl, cntM_made w⟩ (fun k e => by cases e; exact Nat.le_refl _)

section
variable {ops : Array Oper} {rest : List Oper} {a : Act} {Q : Exit → Act → World → Prop} {d : Option Tmp} {ty : TypeId} {p : String} {m x y : Operand} {af : Array Edge} {g : Option (Nat × Bool)} {b n B : Nat} {k : Int} {w0 w : World} {L : List Pc} {l : List Int}
theorem wpList_lookC (hm : a.eval m = .map (some b)) (hx : a.eval x = .int .i64 k) (h : CntM w b n l) (hk : InI k)
   (hg : Region.wanted (⟨d, .lookup 50 m x false, ty, p, af, g⟩ : Oper) (yielded ops a.tmps) = true) (hK : wpList Tryz.prog ops Q rest (a.put d (.int .i64 (l.count k))) w) :
   wpList Tryz.prog ops Q (⟨d, .lookup 50 m x false, ty, p, af, g⟩ :: rest) a w := by
  refine wpList_step fun K hK' => ?_
  rw [if_pos hg]
  unfold Oper.wp
  simp [execOp, hm, hx, h.look hk, Result.andThen]
  exact hK' _ _ hK
theorem wpList_putCL (i : Nat) (hm : a.eval m = .map (some b)) (hx : a.eval x = .int .i64 k) (hy : a.eval y = .int .i64 ((l.count k : Int) + 1)) (hS : SL B w0 w L) (hi : L[i]? = some (pCnt b n l)) (hk : InI k) (hl : l.length ≤ 1048576) (hn : n < maxLen)
   (hK : ∀ w', SL B w0 w' (L.set i (pCnt b (n + 1) (l ++ [k]))) → wpList Tryz.prog ops Q rest (a.put d undef) w') :
   wpList Tryz.prog ops Q (⟨d, .mapUpdate 50 m x y, ty, p, af, none⟩ :: rest) a w := by
  obtain ⟨o, ⟨rfl, h2⟩, h4, h5⟩ := hS.upd i hi
  refine wpList_plain rfl fun K hK' => ?_
  obtain ⟨w', hrun, h1, hg⟩ := h2.put hk hl hn
  unfold Oper.wp
  simp [execOp, hm, hx, hy, hrun, Result.andThen]
  exact hK' _ _ (hK w' (h5 w' _ (some b) hg ⟨rfl, h1⟩ (.inl rfl)))
end
section
variable {P : Program} {ops : Array Oper} {rest : List Oper} {a : Act} {α : Type} {c : α → Value} {sz bytes : Nat} {t e t2 e2 : TypeId} {z : Value} {ad : Option Addr} {cap n : Nat} {l : List α} {k : Int} {w : World}
  {d1 d2 d3 : Tmp} {ty1 ty2 ty3 : TypeId} {p1 p2 p3 : String} {s x : Operand} {af1 af2 af3 : Array Edge} {j : Nat} {g1 g2 g3 : Option (Nat × Bool)}
/-- one field of an element, read behind a guard. -/
theorem wpList_fldG {Q : Exit → Act → World → Prop} (d : α) (v : Value) (E : ETy P t e z sz bytes) (hF : Flat P e2)
   (hf : ∀ (b o : Nat) (w' : World), (Instr.fieldAt t2 (.pointer (some ⟨b, o, none⟩)) j).run P w' = .ok (.pointer (some ⟨b, o + j, none⟩)) w')
   (hs : a.eval s = .slice ad n cap) (hx : a.eval x = .int .i64 k) (hR : Reps c sz w ad cap l) (hn : l.length = n) (h0 : 0 ≤ k) (hlt : k < n)
   (hv : (c (atD d l k)).cells.toList[j]? = some v) (hd : ∀ p, (a.put (some d1) p).eval (.tmp d1) = p) (hd2 : ∀ p q, ((a.put (some d1) p).put (some d2) q).eval (.tmp d2) = q)
   (hw1 : Region.wanted ⟨some d1, .indexAddr t s x, ty1, p1, af1, g1⟩ (yielded ops a.tmps) = true) (hw2 : ∀ p, Region.wanted ⟨some d2, .fieldAddr t2 (.tmp d1) j, ty2, p2, af2, g2⟩ (yielded ops (a.put (some d1) p).tmps) = true)
   (hw3 : ∀ p q, Region.wanted ⟨some d3, .load e2 (.tmp d2), ty3, p3, af3, g3⟩ (yielded ops ((a.put (some d1) p).put (some d2) q).tmps) = true)
   (hK : ∀ p q, wpList P ops Q rest (((a.put (some d1) p).put (some d2) q).put (some d3) v) w) :
   wpList P ops Q (⟨some d1, .indexAddr t s x, ty1, p1, af1, g1⟩ :: ⟨some d2, .fieldAddr t2 (.tmp d1) j, ty2, p2, af2, g2⟩ :: ⟨some d3, .load e2 (.tmp d2), ty3, p3, af3, g3⟩ :: rest) a w := by
  subst hn
  have hkl : k.toNat < l.length := by omega
  obtain ⟨b, o, rfl, hcs⟩ := hR.cells E.pos d k.toNat hkl
  have hcell := hcs j v hv
  have hadd : (⟨b, o, none⟩ : Addr).add (k.toNat * sz) = ⟨b, o + k.toNat * sz, none⟩ := Addr.add_z ..
  have h1 := run_indexAt_sl (P := P) (a := ⟨b, o, none⟩) (cap := cap) w E h0 hlt
  have h2 := hf b (o + k.toNat * sz) w
  have h3 := run_loadAt_cell (P := P) w (a := (⟨b, o + k.toNat * sz + j, none⟩ : Addr)) (v := v) hF hcell
  rw [hadd] at h1
  refine wpList_step fun K hK' => ?_
  rw [if_pos hw1]
  unfold Oper.wp
  simp only [execOp, hs, hx]
  simp [h1, Result.andThen]
  refine hK' _ _ (wpList_step fun K2 hK2 => ?_)
  rw [if_pos (hw2 _)]
  unfold Oper.wp
  simp only [execOp, hd]
  simp [h2, Result.andThen]
  refine hK2 _ _ (wpList_step fun K3 hK3 => ?_)
  rw [if_pos (hw3 _ _)]
  unfold Oper.wp
  simp only [execOp, hd2]
  simp [h3, Result.andThen]
  exact hK3 _ _ (hK _ _)
end
section
variable {P : Program} {ops : Array Oper} {a : Act} {ty : TypeId} {p : String} {af : Array Edge} {g : Option (Nat × Bool)} {d : Tmp} {C : World → Prop}
theorem yieldsK_cellC {e : TypeId} {s : Operand} {x : Addr} {v : Value} (hF : Flat P e) (hb : ∀ w, C w → w.cell? x = some v) (hg : Region.wanted (⟨some d, .load e s, ty, p, af, g⟩ : Oper) (yielded ops a.tmps) = true) (hs : a.eval s = .pointer (some x)) :
    YieldsK P ops C ⟨some d, .load e s, ty, p, af, g⟩ v a :=
  .inl ⟨hg, fun w' hw' => by simp [execOp, hs, run_loadAt_cell w' hF (hb w' hw'), Result.andThen]⟩
end
theorem fld_ref0 (b o : Nat) (w' : World) : (Instr.fieldAt 54 (.pointer (some ⟨b, o, none⟩)) 0).run Tryz.prog w' = .ok (.pointer (some ⟨b, o + 0, none⟩)) w' := by
  simp [go_sem, Tryz.underlying54]

/-! the loop over the moves -/
/-- what was set aside and what was legal, so far. -/
structure RtI (R LS ms : List (Int × Int)) (k : Nat) (s : List Int) (ac lg : List (Int × Int)) : Prop where
  r : R = ac ++ (replayGo s (ms.drop k) k []).2
  l : LS = lg ++ legalSub s (ms.drop k)
  la : ac.length ≤ k
  ll : lg.length ≤ k
theorem RtI.start (l : List Int) (ms : List (Int × Int)) : RtI (replayL l ms).2 (legalSub l ms) ms 0 l [] [] := ⟨rfl, rfl, Nat.le_refl _, Nat.le_refl _⟩
theorem replayGo_al : ∀ (ms : List (Int × Int)) (s : List Int) (k : Nat) (ac : List (Int × Int)), (replayGo s ms k ac).2.length ≤ ac.length + ms.length
  | [], s, k, ac => by simp [replayGo]
  | m :: r, s, k, ac => by
    rw [replayGo]
    split
    · have := replayGo_al r (nextL s m.1 m.2) (k + 1) ac; simp; omega
    · have := replayGo_al r s (k + 1) (ac ++ [((k : Int) + 1, legalN s m.1 m.2)]); simp at this ⊢; omega
theorem atD_app {α : Type} (d : α) (a b : List α) : atD d (a ++ b) a.length = b.headD d := by
  cases b <;> simp [atD]
theorem drop_atD {α : Type} (d : α) {l : List α} {k : Nat} (h : k < l.length) : l.drop k = atD d l k :: l.drop (k + 1) := by
  rw [List.drop_eq_getElem_cons h]; simp [atD, h]
theorem RtI.legal {R LS ms : List (Int × Int)} {k : Nat} {s : List Int} {ac lg : List (Int × Int)} (h : RtI R LS ms k s ac lg) (hk : k < ms.length) (hl : legalN s (atD (0, 0) ms k).1 (atD (0, 0) ms k).2 = 0) :
    RtI R LS ms (k + 1) (nextL s (atD (0, 0) ms k).1 (atD (0, 0) ms k).2) ac (lg ++ [atD (0, 0) ms k]) ∧ (ac.length < R.length → (atD (0, 0) R ac.length).1 ≠ (k : Int) + 1) := by
  obtain ⟨h1, h2, h3, h4⟩ := h
  rw [drop_atD (0, 0) hk, replayGo, if_pos hl] at h1
  rw [drop_atD (0, 0) hk, legalSub, if_pos hl] at h2
  refine ⟨⟨h1, by rw [h2]; simp, by omega, by simp; omega⟩, fun hlt => ?_⟩
  have hn := replayGo_num (ms.drop (k + 1)) (nextL s (atD (0, 0) ms k).1 (atD (0, 0) ms k).2) (k + 1)
  rw [h1, atD_app]
  cases hq : (replayGo (nextL s (atD (0, 0) ms k).1 (atD (0, 0) ms k).2) (ms.drop (k + 1)) (k + 1) []).2 with
  | nil => rw [hq] at h1; rw [h1] at hlt; simp at hlt
  | cons y r =>
    have := hn y (by rw [hq]; simp)
    simp only [List.headD_cons]
    omega
theorem RtI.aside {R LS ms : List (Int × Int)} {k : Nat} {s : List Int} {ac lg : List (Int × Int)} (h : RtI R LS ms k s ac lg) (hk : k < ms.length) (hl : legalN s (atD (0, 0) ms k).1 (atD (0, 0) ms k).2 ≠ 0) :
    (∃ y, RtI R LS ms (k + 1) s (ac ++ [y]) lg) ∧ ac.length < R.length ∧ (atD (0, 0) R ac.length).1 = (k : Int) + 1 := by
  obtain ⟨h1, h2, h3, h4⟩ := h
  rw [drop_atD (0, 0) hk, replayGo, if_neg hl, replayGo_acc] at h1
  rw [drop_atD (0, 0) hk, legalSub, if_neg hl] at h2
  refine ⟨⟨((k : Int) + 1, legalN s (atD (0, 0) ms k).1 (atD (0, 0) ms k).2), by rw [h1]; simp only [List.nil_append, List.append_assoc], h2, by simp; omega, by omega⟩, by rw [h1]; simp, ?_⟩
  rw [h1, atD_app]
  rfl
theorem RtI.fin {R LS ms : List (Int × Int)} {s : List Int} {ac lg : List (Int × Int)} (h : RtI R LS ms ms.length s ac lg) : R = ac ∧ LS = lg := by
  obtain ⟨h1, h2, _, _⟩ := h
  rw [List.drop_length] at h1 h2
  simp [replayGo] at h1
  simp [legalSub] at h2
  exact ⟨h1, h2⟩
theorem turned_mod (l : List Int) (b : Int) : turnedL l (b % l.length) = turnedL l b := by
  refine ext_atD (by rw [turnedL_len, turnedL_len]) (fun j j0 j1 => ?_)
  rw [turnedL_len] at j1
  rw [atD_turned j0 j1, atD_turned j0 j1]
  congr 1
  rw [Int.sub_emod, Int.emod_emod, ← Int.sub_emod]
end Go.Proofs.YtmomeggnegcheaaGreatDoor
