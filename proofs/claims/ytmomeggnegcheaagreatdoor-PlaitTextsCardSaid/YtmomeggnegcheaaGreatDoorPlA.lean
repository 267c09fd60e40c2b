/- A map from int to bool, and one from int to int, that a call makes: look-ups and stores. Conditions: keys fit an int. Contracts of small functions of package plait and of the reference. Conditions: slices readable; sizes as stated. Contracts: CheckStand of the program. Conditions: the slice can be read; its numbers fit an int. Contracts: the rules of a move (legal, ask). Conditions: the slice can be read. Contract: legal. Conditions: the slice can be read. Contracts: Clone, numbers, next. Conditions: the slice can be read and has fewer than 2^20 elements. Contracts: checkMoves, Legal, Next, re -/
import Derived.Test.YtmomeggnegcheaaGreatDoorTyA
import Derived.Maps.Own
import Derived.Maps.OwnSet
import Derived.Maps.Views
import Derived.WalkLawsBesides
import Derived.Laws.EntriesVeiled
set_option linter.all false
/- A map from int to bool, and one from int to int, that a call makes: look-ups and stores. Conditions: keys fit an int. -/
namespace Go.Proofs.YtmomeggnegcheaaGreatDoor
open Go.RowKit Go.Maps
set_option maxRecDepth 100000

theorem keyI : Keyed Tryz.prog 3 := int_keyed Tryz.underlying3
def InI (k : Int) : Prop := -9223372036854775808 ≤ k ∧ k ≤ 9223372036854775807
theorem InI.wf {k : Int} (h : InI k) : (Lit.int .i64 k).wf = true := by
  unfold InI at h
  exact WalkArith.wf_i64 (by omega)
theorem keyOfI {k : Int} (h : InI k) : keyOf Tryz.prog 3 (.int .i64 k) = some (.int .i64 k) := keyOf_int_mk Tryz.underlying3 h.wf

def MapB (w : World) (b n : Nat) (f : Int → Bool) : Prop :=
  ∃ D : DataW Unit, w.ownsMap Tryz.prog 3 (plainElem Tryz.prog 4) b n D ∧ ∀ k, InI k → D.atKey (.int .i64 k) (.lit (.bool false)) = .lit (.bool (f k))
def MapI (w : World) (b n : Nat) (f : Int → Int) : Prop :=
  ∃ D : DataW Unit, w.ownsMap Tryz.prog 3 (plainElem Tryz.prog 3) b n D ∧ ∀ k, InI k → D.atKey (.int .i64 k) (.lit (.int .i64 0)) = .lit (.int .i64 (f k))

theorem zeroB (w : World) : (zeroValue 4).run Tryz.prog w = .ok (.bool false) w := by kernel_rfl
theorem zeroI (w : World) : (zeroValue 3).run Tryz.prog w = .ok (.int .i64 0) w := by kernel_rfl

theorem mapB_made (w : World) : MapB (w.alloc (.map #[] 0)) w.heap.size 0 (fun _ => false) :=
  ⟨.map [], World.ownsMap_made _ _ _ _, fun _ _ => rfl⟩
theorem mapI_made (w : World) : MapI (w.alloc (.map #[] 0)) w.heap.size 0 (fun _ => 0) :=
  ⟨.map [], World.ownsMap_made _ _ _ _, fun _ _ => rfl⟩
theorem MapB.kept {w w' : World} {b n : Nat} {f : Int → Bool} {row : Option Nat} (h : MapB w b n f) (hg : w.grownBy w' row) (hne : some b ≠ row) : MapB w' b n f := by
  obtain ⟨D, h1, h2⟩ := h; exact ⟨D, h1.kept hg hne, h2⟩
theorem MapI.kept {w w' : World} {b n : Nat} {f : Int → Int} {row : Option Nat} (h : MapI w b n f) (hg : w.grownBy w' row) (hne : some b ≠ row) : MapI w' b n f := by
  obtain ⟨D, h1, h2⟩ := h; exact ⟨D, h1.kept hg hne, h2⟩
theorem MapB.below {w w' : World} {b n : Nat} {f : Int → Bool} (h : MapB w b n f) (hb : Below w.heap.size w w') : MapB w' b n f := by
  obtain ⟨D, h1, h2⟩ := h
  exact ⟨D, h1.kept (row := none) ⟨hb.os, hb.tape, hb.output, hb.size, fun k hk _ => hb.block k hk⟩ (by simp), h2⟩
theorem MapI.below {w w' : World} {b n : Nat} {f : Int → Int} (h : MapI w b n f) (hb : Below w.heap.size w w') : MapI w' b n f := by
  obtain ⟨D, h1, h2⟩ := h
  exact ⟨D, h1.kept (row := none) ⟨hb.os, hb.tape, hb.output, hb.size, fun k hk _ => hb.block k hk⟩ (by simp), h2⟩
theorem MapB.alloc {w : World} {b n : Nat} {f : Int → Bool} (h : MapB w b n f) (o : Obj) : MapB (w.alloc o) b n f := h.below ((Below.refl _ _).alloc (Nat.le_refl _) _)
theorem MapI.alloc {w : World} {b n : Nat} {f : Int → Int} (h : MapI w b n f) (o : Obj) : MapI (w.alloc o) b n f := h.below ((Below.refl _ _).alloc (Nat.le_refl _) _)
theorem MapB.lt {w : World} {b n : Nat} {f : Int → Bool} (h : MapB w b n f) : b < w.heap.size := by obtain ⟨D, h1, _⟩ := h; exact h1.lt
theorem MapI.lt {w : World} {b n : Nat} {f : Int → Int} (h : MapI w b n f) : b < w.heap.size := by obtain ⟨D, h1, _⟩ := h; exact h1.lt

theorem plainElem_bool_inv {v : Value} {z : DataW Unit × List MemPlace} (h : plainElem Tryz.prog 4 v = some z) : ∃ a, v = .bool a ∧ z = (.lit (.bool a), []) := by
  unfold plainElem at h
  rw [Tryz.underlying4] at h
  cases v <;> simp at h
  exact ⟨_, rfl, h.symm⟩

theorem MapB.look {w : World} {b n : Nat} {f : Int → Bool} (h : MapB w b n f) {k : Int} (hk : InI k) : (Instr.lookup 162 (.map (some b)) (.int .i64 k) false).run Tryz.prog w = .ok (.bool (f k)) w := by
  obtain ⟨D, h1, h2⟩ := h
  obtain ⟨v, ps, hrun, hv⟩ := h1.lookup keyI Tryz.underlying162 (zeroB w) (plainElem_bool Tryz.underlying4 false) (keyOfI hk)
  obtain ⟨x, rfl, hx⟩ := plainElem_bool_inv hv
  rw [h2 k hk] at hx
  simp only [Prod.mk.injEq, DataW.lit.injEq, Lit.bool.injEq] at hx
  rw [hrun, hx.1]

theorem MapI.look {w : World} {b n : Nat} {f : Int → Int} (h : MapI w b n f) {k : Int} (hk : InI k) : (Instr.lookup 50 (.map (some b)) (.int .i64 k) false).run Tryz.prog w = .ok (.int .i64 (f k)) w := by
  obtain ⟨D, h1, h2⟩ := h
  obtain ⟨x, hrun, hat, _⟩ := h1.lookup_int keyI Tryz.underlying50 Tryz.underlying3 (zeroI w) (keyOfI hk)
  rw [h2 k hk] at hat
  simp only [DataW.lit.injEq, Lit.int.injEq, true_and] at hat
  rw [hrun, hat]

theorem MapB.put {w : World} {b n : Nat} {f : Int → Bool} (h : MapB w b n f) {k : Int} (hk : InI k) (v : Bool) (hn : n < maxLen) :
   ∃ w', (Instr.mapUpdate 162 (.map (some b)) (.int .i64 k) (.bool v)).run Tryz.prog w = .ok () w' ∧ MapB w' b (n + 1) (fun x => if x = k then v else f x) ∧ w.grownBy w' (some b) := by
  obtain ⟨D, h1, h2⟩ := h
  obtain ⟨w', hrun, ho, hg⟩ := h1.update keyI Tryz.underlying162 hn (keyOfI hk) (plainElem_bool Tryz.underlying4 v)
  refine ⟨w', hrun, ⟨_, ho, fun j hj => ?_⟩, hg⟩
  by_cases e : j = k
  · subst e
    rw [atKey_put_same h1.isMap (keyI.key (keyOfI hk))]; simp
  · rw [atKey_put_other (by simpa using e), h2 j hj]; simp [e]

theorem MapI.put {w : World} {b n : Nat} {f : Int → Int} (h : MapI w b n f) {k v : Int} (hk : InI k) (hv : InI v) (hn : n < maxLen) :
   ∃ w', (Instr.mapUpdate 50 (.map (some b)) (.int .i64 k) (.int .i64 v)).run Tryz.prog w = .ok () w' ∧ MapI w' b (n + 1) (fun x => if x = k then v else f x) ∧ w.grownBy w' (some b) := by
  obtain ⟨D, h1, h2⟩ := h
  obtain ⟨w', hrun, ho, hg⟩ := h1.update keyI Tryz.underlying50 hn (keyOfI hk) (plainElem_int Tryz.underlying3 hv.wf)
  refine ⟨w', hrun, ⟨_, ho, fun j hj => ?_⟩, hg⟩
  by_cases e : j = k
  · subst e
    rw [atKey_put_same h1.isMap (keyI.key (keyOfI hk))]; simp
  · rw [atKey_put_other (by simpa using e), h2 j hj]; simp [e]

section
variable {ops : Array Oper} {rest : List Oper} {a : Act} {Q : Exit → Act → World → Prop} {d : Option Tmp} {ty : TypeId} {p : String} {m x y : Operand} {af : Array Edge} {g : Option (Nat × Bool)} {b n : Nat} {k : Int}
theorem wpList_lookB {w : World} {f : Int → Bool} (hm : a.eval m = .map (some b)) (hx : a.eval x = .int .i64 k) (h : MapB w b n f) (hk : InI k)
   (hg : Region.wanted (⟨d, .lookup 162 m x false, ty, p, af, g⟩ : Oper) (yielded ops a.tmps) = true) (hK : wpList Tryz.prog ops Q rest (a.put d (.bool (f k))) w) :
   wpList Tryz.prog ops Q (⟨d, .lookup 162 m x false, ty, p, af, g⟩ :: rest) a w := by
  refine wpList_step fun K hK' => ?_
  rw [if_pos hg]
  unfold Oper.wp
  simp [execOp, hm, hx, h.look hk, Result.andThen]
  exact hK' _ _ hK
theorem wpList_lookI {w : World} {f : Int → Int} (hm : a.eval m = .map (some b)) (hx : a.eval x = .int .i64 k) (h : MapI w b n f) (hk : InI k)
   (hg : Region.wanted (⟨d, .lookup 50 m x false, ty, p, af, g⟩ : Oper) (yielded ops a.tmps) = true) (hK : wpList Tryz.prog ops Q rest (a.put d (.int .i64 (f k))) w) :
   wpList Tryz.prog ops Q (⟨d, .lookup 50 m x false, ty, p, af, g⟩ :: rest) a w := by
  refine wpList_step fun K hK' => ?_
  rw [if_pos hg]
  unfold Oper.wp
  simp [execOp, hm, hx, h.look hk, Result.andThen]
  exact hK' _ _ hK
theorem wpList_putB {w : World} {f : Int → Bool} {v : Bool} (hm : a.eval m = .map (some b)) (hx : a.eval x = .int .i64 k) (hy : a.eval y = .bool v) (h : MapB w b n f) (hk : InI k) (hn : n < maxLen)
   (hK : ∀ w', MapB w' b (n + 1) (fun x => if x = k then v else f x) → w.grownBy w' (some b) → wpList Tryz.prog ops Q rest (a.put d undef) w') :
   wpList Tryz.prog ops Q (⟨d, .mapUpdate 162 m x y, ty, p, af, none⟩ :: rest) a w := by
  refine wpList_plain rfl fun K hK' => ?_
  obtain ⟨w', hrun, h1, h2⟩ := h.put hk v hn
  unfold Oper.wp
  simp [execOp, hm, hx, hy, hrun, Result.andThen]
  exact hK' _ _ (hK w' h1 h2)
theorem wpList_putI {w : World} {f : Int → Int} {v : Int} (hm : a.eval m = .map (some b)) (hx : a.eval x = .int .i64 k) (hy : a.eval y = .int .i64 v) (h : MapI w b n f) (hk : InI k) (hv : InI v) (hn : n < maxLen)
   (hK : ∀ w', MapI w' b (n + 1) (fun x => if x = k then v else f x) → w.grownBy w' (some b) → wpList Tryz.prog ops Q rest (a.put d undef) w') :
   wpList Tryz.prog ops Q (⟨d, .mapUpdate 50 m x y, ty, p, af, none⟩ :: rest) a w := by
  refine wpList_plain rfl fun K hK' => ?_
  obtain ⟨w', hrun, h1, h2⟩ := h.put hk hv hn
  unfold Oper.wp
  simp [execOp, hm, hx, hy, hrun, Result.andThen]
  exact hK' _ _ (hK w' h1 h2)
end
end Go.Proofs.YtmomeggnegcheaaGreatDoor

/- Contracts of small functions of package plait and of the reference. Conditions: slices readable; sizes as stated. -/
namespace Go.Proofs.YtmomeggnegcheaaGreatDoor
open Go.RowKit
set_option maxHeartbeats 400000
set_option maxRecDepth 100000

theorem when_any (b : Bool) (e : Int) (w : World) :
    Calls Tryz.prog 89 #[.bool b, .int .i64 e] w fun r w' => r = .returned (.int .i64 (if b then e else 0)) ∧ w = w' := by
  cases b
  · go_enter Tryz.func89, Tryz.ntmps89
    go_wp2
    go_ret
    exact ⟨rfl, rfl⟩
  · go_enter Tryz.func89, Tryz.ntmps89
    go_wp2
    go_ret
    exact ⟨rfl, rfl⟩

/-- the first error of a list. -/
def firstE (l : List Int) : Int := (l.find? (· != 0)).getD 0
theorem firstE_drop (l : List Int) (k : Nat) (h : k < l.length) : firstE (l.drop k) = if atD 0 l k != 0 then atD 0 l k else firstE (l.drop (k + 1)) := by
  have e : l.drop k = l[k] :: l.drop (k + 1) := List.drop_eq_getElem_cons h
  have e2 : atD 0 l k = l[k] := by simp [atD, h]
  rw [e, e2]
  simp only [firstE, List.find?_cons]
  cases h1 : (l[k] != 0) <;> simp
@[go_sem] theorem firstE_nil : firstE [] = 0 := rfl
@[go_sem] theorem firstE_cons (x : Int) (l : List Int) : firstE (x :: l) = if x = 0 then firstE l else x := by
  unfold firstE; rw [List.find?_cons]; by_cases h : x = 0
  · simp [h]
  · have : (x != 0) = true := by simpa using h
    rw [this]; simp [h]
theorem firstE_end (l : List Int) : firstE (l.drop l.length) = 0 := by simp [firstE]

theorem first_any (a : Option Addr) (cap : Nat) (l : List Int) (w : World) (h : Ints w a cap l) :
    Calls Tryz.prog 54 #[.slice a l.length cap] w fun r w' => r = .returned (.int .i64 (firstE l)) ∧ w = w' := by
  have hcap := h.le
  have hm := h.max
  go_enter Tryz.func54, Tryz.ntmps54
  go_wp2
  go_loop [7] (fun i => ∃ k : Nat, k ≤ l.length ∧ i = .int .i64 k ∧ firstE (l.drop k) = firstE l) (fun i => l.length - (intOf i).toNat)
  case atStart => exact ⟨0, by omega, rfl, by simp⟩
  case round =>
    obtain ⟨k, hk, rfl, hf⟩ := hrel
    by_cases hlt : k < l.length
    · have hs := firstE_drop l k hlt
      have HF := hid hf; clear hf
      have HS := hid hs; clear hs
      go_wp2_with (with_reducible refine wpList_idx _ 0 E_errs F_err cInt1 (by with_unfolding_all rfl) (by with_unfolding_all rfl) (h) (by first | omega | (simp; done)) (by first | omega | (simp; done)) (fun _ => by with_unfolding_all rfl) (fun _ => ?_))
      · go_ret
        have h1 : (atD 0 l k != 0) = true := by assumption
        refine ⟨?_, rfl⟩
        have := HS.out; rw [HF.out, h1, if_pos rfl] at this; rw [this]; rfl
      · go_round
        case rel =>
          have h1 : (atD 0 l k != 0) = false := by assumption
          refine ⟨k + 1, by omega, by go_num, ?_⟩
          have := HS.out; rw [HF.out, h1] at this; exact this.symm
        case measure => simp [intOf]; omega
    · have : k = l.length := by omega
      subst this
      rw [firstE_end] at hf
      have HF := hid hf; clear hf
      go_wp2
      go_ret
      exact ⟨by rw [← HF.out]; rfl, rfl⟩
end Go.Proofs.YtmomeggnegcheaaGreatDoor

/- Contracts: CheckStand of the program. Conditions: the slice can be read; its numbers fit an int. -/
namespace Go.Proofs.YtmomeggnegcheaaGreatDoor
open Go.RowKit
set_option maxHeartbeats 400000
set_option maxRecDepth 100000

def standGo : List Int → List Int → Int
  | _, [] => 0
  | seen, x :: r => if x < 0 ∨ 64 < x then 3 else if x ≠ 0 ∧ x ∈ seen then 9 else standGo (seen ++ [x]) r
def checkStand (l : List Int) : Int := if l.length < 4 then 2 else if 64 < l.length then 5 else standGo [] l

theorem standGo_step (l : List Int) (k : Nat) (h : k < l.length) : standGo (l.take k) (l.drop k) =
    if atD 0 l k < 0 ∨ 64 < atD 0 l k then 3 else if atD 0 l k ≠ 0 ∧ atD 0 l k ∈ l.take k then 9 else standGo (l.take (k + 1)) (l.drop (k + 1)) := by
  have e : l.drop k = l[k] :: l.drop (k + 1) := List.drop_eq_getElem_cons h
  have e2 : atD 0 l k = l[k] := by simp [atD, h]
  rw [e, e2, standGo, List.take_succ_eq_append_getElem h]

theorem CheckStand_any (a : Option Addr) (cap : Nat) (l : List Int) (w : World) (hS : Ints w a cap l) (hI : ∀ x ∈ l, InI x) :
    Calls Tryz.prog 55 #[.slice a l.length cap] w fun r w' => r = .returned (.int .i64 (checkStand l)) ∧ Below w.heap.size w w' := by
  have hcap := hS.le
  have hm := hS.max
  have hmm := @run_makeMap Tryz.prog
  by_cases h4 : l.length < 4
  · have hs : checkStand l = 2 := by simp [checkStand, h4]
    have HS := hid hs; clear hs
    go_enter Tryz.func55, Tryz.ntmps55
    go_wp2_with (first | (go_at_call 89; refine (when_any _ _ _).mono ?_; rintro e w' ⟨rfl, rfl⟩) | (go_at_call 54; refine (first_any _ _ [_, _] _ (reps_newN cIntS [_, _] 2 rfl (by decide) _ _ (by simp) rfl)).mono ?_; rintro e w' ⟨rfl, rfl⟩))
    go_ret
    exact ⟨by rw [HS.out]; rfl, bal (Below.refl _ _) _⟩
  by_cases h64 : 64 < l.length
  · have hs : checkStand l = 5 := by simp [checkStand, h4, h64]
    have HS := hid hs; clear hs
    go_enter Tryz.func55, Tryz.ntmps55
    go_wp2_with (first | (go_at_call 89; refine (when_any _ _ _).mono ?_; rintro e w' ⟨rfl, rfl⟩) | (go_at_call 54; refine (first_any _ _ [_, _] _ (reps_newN cIntS [_, _] 2 rfl (by decide) _ _ (by simp) rfl)).mono ?_; rintro e w' ⟨rfl, rfl⟩))
    go_ret
    exact ⟨by rw [HS.out]; rfl, bal (Below.refl _ _) _⟩
  have hs : checkStand l = standGo [] l := by simp [checkStand, h4, h64]
  have HS := hid hs; clear hs
  go_enter Tryz.func55, Tryz.ntmps55
  go_wp2_with (first | (go_at_call 89; refine (when_any _ _ _).mono ?_; rintro e w' ⟨rfl, rfl⟩) | (go_at_call 54; refine (first_any _ _ [_, _] _ (reps_newN cIntS [_, _] 2 rfl (by decide) _ _ (by simp) rfl)).mono ?_; rintro e w' ⟨rfl, rfl⟩))
  go_loopw [24] (fun i wr => ∃ k : Nat, k ≤ l.length ∧ i = .int .i64 k ∧ MapB wr (w.heap.size + 1) k (fun x => decide (x ∈ l.take k)) ∧ Below w.heap.size w wr ∧ standGo (l.take k) (l.drop k) = checkStand l) (fun i _ => l.length - (intOf i).toNat)
  case atStart =>
    refine ⟨0, by omega, rfl, ?_, bal (bal (Below.refl _ _) _) _, by simp [HS.out]⟩
    have := mapB_made (w.alloc (.cells #[.int .i64 0, .int .i64 0] 27))
    simpa using this
  case round =>
    obtain ⟨k, hk, rfl, hmap, hb, hgo⟩ := hrel
    have hmlt := hmap.lt
    have hR := hS.below hb
    have hnk : k < maxLen := by unfold maxLen; omega
    by_cases hlt : k < l.length
    · have hstep := standGo_step l k hlt
      have hin : InI (atD 0 l k) := hI _ (by simp [atD, hlt])
      rw [hgo] at hstep
      have hT : l.take (k + 1) = l.take k ++ [atD 0 l k] := by rw [List.take_succ_eq_append_getElem hlt]; simp [atD, hlt]
      have HT := hid hT; clear hT
      have HG := hid hgo; clear hgo
      have HT2 := hid hstep; clear hstep
      have HI := hid hin; clear hin
      by_cases c1 : atD 0 l k < 0
      · have hne : (atD 0 l k != 0) = true := by rw [bne_iff_ne]; omega
        go_wp2_with (first | (go_at_call 89; refine (when_any _ _ _).mono ?_; rintro e w' ⟨rfl, rfl⟩) | (go_at_call 54; refine (first_any _ _ [_, _] _ (reps_newN cIntS [_, _] 2 rfl (by decide) _ _ (by simp) rfl)).mono ?_; rintro e w' ⟨rfl, rfl⟩) | (with_reducible refine wpList_idx _ 0 E_ints F_int cInt1 (by with_unfolding_all rfl) (by with_unfolding_all rfl) (hR) (by first | omega | (simp; done)) (by first | omega | (simp; done)) (fun _ => by with_unfolding_all rfl) (fun _ => ?_)) | (with_reducible refine wpList_lookB (by with_unfolding_all rfl) (by with_unfolding_all rfl) (hmap) (HI.out) (by with_unfolding_all rfl) ?_))
        all_goals
          go_ret
          exact ⟨by rw [HT2.out, if_pos (.inl c1)]; rfl, bal hb _⟩
      by_cases c2 : 64 < atD 0 l k
      · have hne : (atD 0 l k != 0) = true := by rw [bne_iff_ne]; omega
        go_wp2_with (first | (go_at_call 89; refine (when_any _ _ _).mono ?_; rintro e w' ⟨rfl, rfl⟩) | (go_at_call 54; refine (first_any _ _ [_, _] _ (reps_newN cIntS [_, _] 2 rfl (by decide) _ _ (by simp) rfl)).mono ?_; rintro e w' ⟨rfl, rfl⟩) | (with_reducible refine wpList_idx _ 0 E_ints F_int cInt1 (by with_unfolding_all rfl) (by with_unfolding_all rfl) (hR) (by first | omega | (simp; done)) (by first | omega | (simp; done)) (fun _ => by with_unfolding_all rfl) (fun _ => ?_)) | (with_reducible refine wpList_lookB (by with_unfolding_all rfl) (by with_unfolding_all rfl) (hmap) (HI.out) (by with_unfolding_all rfl) ?_))
        all_goals
          go_ret
          exact ⟨by rw [HT2.out, if_pos (.inr c2)]; rfl, bal hb _⟩
      have c12 : ¬ (atD 0 l k < 0 ∨ 64 < atD 0 l k) := by omega
      have hend : ∀ (wr wa : World), MapB wr (w.heap.size + 1) k (fun x => decide (x ∈ l.take k)) → Below w.heap.size w wr → ∀ w1, MapB w1 (w.heap.size + 1) (k + 1) (fun x => if x = atD 0 l k then true else decide (x ∈ l.take k)) → wa.grownBy w1 (some (w.heap.size + 1)) → Below w.heap.size w wa →
          MapB w1 (w.heap.size + 1) (k + 1) (fun x => decide (x ∈ l.take (k + 1))) ∧ Below w.heap.size w w1 := by
        intro wr wa _ _ w1 h1 hg hba
        refine ⟨?_, hba.grown hg hba.size (fun j hj => by cases hj; omega)⟩
        have e : (fun x => if x = atD 0 l k then true else decide (x ∈ l.take k)) = (fun x => decide (x ∈ l.take (k + 1))) := by
          funext x
          rw [HT.out]
          by_cases e : x = atD 0 l k <;> simp [e]
        rw [← e]; exact h1
      by_cases c3 : atD 0 l k = 0
      · have hne : (atD 0 l k != 0) = false := by rw [c3]; rfl
        have HC := hid c3; clear c3
        go_wp2_with (first | (go_at_call 89; refine (when_any _ _ _).mono ?_; rintro e w' ⟨rfl, rfl⟩) | (go_at_call 54; refine (first_any _ _ [_, _] _ (reps_newN cIntS [_, _] 2 rfl (by decide) _ _ (by simp) rfl)).mono ?_; rintro e w' ⟨rfl, rfl⟩) | (with_reducible refine wpList_idx _ 0 E_ints F_int cInt1 (by with_unfolding_all rfl) (by with_unfolding_all rfl) (hR) (by first | omega | (simp; done)) (by first | omega | (simp; done)) (fun _ => by with_unfolding_all rfl) (fun _ => ?_)) | ((with_reducible refine wpList_putB (by with_unfolding_all rfl) (by with_unfolding_all rfl) (by with_unfolding_all rfl) (hmap.alloc _) (HI.out) (hnk) ?_); intro w1 hm1 hg1))
        have R := hend _ _ hmap hb w1 hm1 hg1 (bal hb _)
        go_roundw
        case rel => exact ⟨k + 1, by omega, by go_num, R.1, R.2, by rw [HT2.out, if_neg c12, if_neg (by rw [HC.out]; simp)]⟩
        case measure => simp [intOf]; omega
      have hne : (atD 0 l k != 0) = true := by rw [bne_iff_ne]; exact c3
      by_cases c4 : atD 0 l k ∈ l.take k
      · have hd : decide (atD 0 l k ∈ l.take k) = true := by simpa using c4
        have HC := hid c4; clear c4
        go_wp2_with (first | (go_at_call 89; refine (when_any _ _ _).mono ?_; rintro e w' ⟨rfl, rfl⟩) | (go_at_call 54; refine (first_any _ _ [_, _] _ (reps_newN cIntS [_, _] 2 rfl (by decide) _ _ (by simp) rfl)).mono ?_; rintro e w' ⟨rfl, rfl⟩) | (with_reducible refine wpList_idx _ 0 E_ints F_int cInt1 (by with_unfolding_all rfl) (by with_unfolding_all rfl) (hR) (by first | omega | (simp; done)) (by first | omega | (simp; done)) (fun _ => by with_unfolding_all rfl) (fun _ => ?_)) | (with_reducible refine wpList_lookB (by with_unfolding_all rfl) (by with_unfolding_all rfl) (hmap) (HI.out) (by with_unfolding_all rfl) ?_))
        go_ret
        exact ⟨by rw [HT2.out, if_neg c12, if_pos ⟨c3, HC.out⟩]; rfl, bal hb _⟩
      · have hd : decide (atD 0 l k ∈ l.take k) = false := by simpa using c4
        have HC := hid c4; clear c4
        go_wp2_with (first | (go_at_call 89; refine (when_any _ _ _).mono ?_; rintro e w' ⟨rfl, rfl⟩) | (go_at_call 54; refine (first_any _ _ [_, _] _ (reps_newN cIntS [_, _] 2 rfl (by decide) _ _ (by simp) rfl)).mono ?_; rintro e w' ⟨rfl, rfl⟩) | (with_reducible refine wpList_idx _ 0 E_ints F_int cInt1 (by with_unfolding_all rfl) (by with_unfolding_all rfl) (hR) (by first | omega | (simp; done)) (by first | omega | (simp; done)) (fun _ => by with_unfolding_all rfl) (fun _ => ?_)) | (with_reducible refine wpList_lookB (by with_unfolding_all rfl) (by with_unfolding_all rfl) (hmap) (HI.out) (by with_unfolding_all rfl) ?_) | ((with_reducible refine wpList_putB (by with_unfolding_all rfl) (by with_unfolding_all rfl) (by with_unfolding_all rfl) (hmap.alloc _) (HI.out) (hnk) ?_); intro w1 hm1 hg1))
        have R := hend _ _ hmap hb w1 hm1 hg1 (bal hb _)
        go_roundw
        case rel => exact ⟨k + 1, by omega, by go_num, R.1, R.2, by rw [HT2.out, if_neg c12, if_neg (fun h => HC.out h.2)]⟩
        case measure => simp [intOf]; omega
    · have : k = l.length := by omega
      subst this
      have e : standGo (l.take l.length) (l.drop l.length) = 0 := by simp [standGo]
      rw [e] at hgo
      have HG := hid hgo; clear hgo e
      go_wp2
      go_ret
      exact ⟨by rw [← HG.out]; rfl, hb⟩
end Go.Proofs.YtmomeggnegcheaaGreatDoor

/- Contracts: the rules of a move (legal, ask). Conditions: the slice can be read. -/
namespace Go.Proofs.YtmomeggnegcheaaGreatDoor
open Go.RowKit
set_option maxHeartbeats 400000
set_option maxRecDepth 100000

def cFn (q : FuncId × Array Value) : Value := .func (.func q.1) #[] q.2
attribute [go_sem] cFn
theorem cFn1 (x : FuncId × Array Value) : (cFn x).cells = #[cFn x] := rfl
theorem cFnS (x : FuncId × Array Value) : (cFn x).cells.size = 1 := rfl
theorem E_fns : ETy Tryz.prog 203 26 .nilFunc 1 8 := ⟨Tryz.underlying203, by kernel_rfl, rfl, by decide⟩
theorem F_fn : Flat Tryz.prog 26 := ⟨_, Tryz.underlying26, rfl⟩

@[go_sem] theorem atD_at0 {α : Type} (d x : α) (l : List α) : atD d (x :: l) 0 = x := rfl
@[go_sem] theorem atD_at1 {α : Type} (d x y : α) (l : List α) : atD d (x :: y :: l) 1 = y := rfl
@[go_sem] theorem atD_at2 {α : Type} (d x y z : α) (l : List α) : atD d (x :: y :: z :: l) 2 = z := rfl

/-- the number of the first question that is answered with no. -/
def askN (b1 b2 b3 : Bool) : Int := if b1 then if b2 then if b3 then 0 else 3 else 2 else 1

theorem ask_any (a : Option Addr) (cap : Nat) (c1 c2 c3 : Array Value) (b1 b2 b3 : Bool) (w : World) (hS : Reps cFn 1 w a cap [(109, c1), (110, c2), (111, c3)])
    (h1 : Calls Tryz.prog 109 c1 w fun e w' => e = .returned (.bool b1) ∧ w = w') (h2 : b1 = true → Calls Tryz.prog 110 c2 w fun e w' => e = .returned (.bool b2) ∧ w = w')
    (h3 : b1 = true → b2 = true → Calls Tryz.prog 111 c3 w fun e w' => e = .returned (.bool b3) ∧ w = w') :
    Calls Tryz.prog 108 #[.slice a 3 cap] w fun r w' => r = .returned (.int .i64 (askN b1 b2 b3)) ∧ w = w' := by
  have hcap : 3 ≤ cap := hS.le
  have hm := hS.max
  have H1 := hid h1; clear h1
  have H2 := hid h2; clear h2
  have H3 := hid h3; clear h3
  go_enter Tryz.func108, Tryz.ntmps108
  go_wp2
  go_loop [7] (fun i => i = .int .i64 0 ∨ (i = .int .i64 1 ∧ b1 = true) ∨ (i = .int .i64 2 ∧ b1 = true ∧ b2 = true) ∨ (i = .int .i64 3 ∧ b1 = true ∧ b2 = true ∧ b3 = true)) (fun i => 3 - (intOf i).toNat)
  case atStart => exact .inl rfl
  case round =>
    rcases hrel with rfl | ⟨rfl, rfl⟩ | ⟨rfl, rfl, rfl⟩ | ⟨rfl, rfl, rfl, rfl⟩
    · cases b1
      · go_wp2_with (first | (with_reducible refine wpList_idx _ (0, #[]) E_fns F_fn cFn1 (by with_unfolding_all rfl) (by with_unfolding_all rfl) (hS) (by first | omega | (simp; done)) (by first | omega | (simp; done)) (fun _ => by with_unfolding_all rfl) (fun _ => ?_)) | (go_at_call 109; refine H1.out.mono ?_; rintro e w' ⟨rfl, rfl⟩))
        go_ret
        exact ⟨rfl, rfl⟩
      · go_wp2_with (first | (with_reducible refine wpList_idx _ (0, #[]) E_fns F_fn cFn1 (by with_unfolding_all rfl) (by with_unfolding_all rfl) (hS) (by first | omega | (simp; done)) (by first | omega | (simp; done)) (fun _ => by with_unfolding_all rfl) (fun _ => ?_)) | (go_at_call 109; refine H1.out.mono ?_; rintro e w' ⟨rfl, rfl⟩))
        go_round
        case rel => exact .inr (.inl ⟨rfl, by simp⟩)
        case measure => simp [intOf]
    · cases b2
      · go_wp2_with (first | (with_reducible refine wpList_idx _ (0, #[]) E_fns F_fn cFn1 (by with_unfolding_all rfl) (by with_unfolding_all rfl) (hS) (by first | omega | (simp; done)) (by first | omega | (simp; done)) (fun _ => by with_unfolding_all rfl) (fun _ => ?_)) | (go_at_call 110; refine (H2.out rfl).mono ?_; rintro e w' ⟨rfl, rfl⟩))
        go_ret
        exact ⟨rfl, rfl⟩
      · go_wp2_with (first | (with_reducible refine wpList_idx _ (0, #[]) E_fns F_fn cFn1 (by with_unfolding_all rfl) (by with_unfolding_all rfl) (hS) (by first | omega | (simp; done)) (by first | omega | (simp; done)) (fun _ => by with_unfolding_all rfl) (fun _ => ?_)) | (go_at_call 110; refine (H2.out rfl).mono ?_; rintro e w' ⟨rfl, rfl⟩))
        go_round
        case rel => exact .inr (.inr (.inl ⟨rfl, by simp⟩))
        case measure => simp [intOf]
    · cases b3
      · go_wp2_with (first | (with_reducible refine wpList_idx _ (0, #[]) E_fns F_fn cFn1 (by with_unfolding_all rfl) (by with_unfolding_all rfl) (hS) (by first | omega | (simp; done)) (by first | omega | (simp; done)) (fun _ => by with_unfolding_all rfl) (fun _ => ?_)) | (go_at_call 111; refine (H3.out rfl rfl).mono ?_; rintro e w' ⟨rfl, rfl⟩))
        go_ret
        exact ⟨rfl, rfl⟩
      · go_wp2_with (first | (with_reducible refine wpList_idx _ (0, #[]) E_fns F_fn cFn1 (by with_unfolding_all rfl) (by with_unfolding_all rfl) (hS) (by first | omega | (simp; done)) (by first | omega | (simp; done)) (fun _ => by with_unfolding_all rfl) (fun _ => ?_)) | (go_at_call 111; refine (H3.out rfl rfl).mono ?_; rintro e w' ⟨rfl, rfl⟩))
        go_round
        case rel => exact .inr (.inr (.inr ⟨rfl, by simp⟩))
        case measure => simp [intOf]
    · go_wp2
      go_ret
      exact ⟨rfl, rfl⟩
end Go.Proofs.YtmomeggnegcheaaGreatDoor

/- Contract: legal. Conditions: the slice can be read. -/
namespace Go.Proofs.YtmomeggnegcheaaGreatDoor
open Go.RowKit
set_option maxHeartbeats 400000
set_option maxRecDepth 100000

def inB (l : List Int) (i : Int) : Bool := decide (0 ≤ i) && decide (i < l.length)
theorem slot_any (i : Int) (b : Nat) (a : Option Addr) (cap : Nat) (l : List Int) (w : World) (hc : w.cell? ⟨b, 0, none⟩ = some (.slice a l.length cap)) :
    Calls Tryz.prog 107 #[.int .i64 i, .pointer (some ⟨b, 0, none⟩)] w fun r w' => r = .returned (.bool (inB l i)) ∧ w = w' := by
  by_cases h0 : i < 0
  · have hd : decide (0 ≤ i) = false := by simp; omega
    have hs : inB l i = false := by simp [inB, hd]
    have HS := hid hs; clear hs
    go_enter Tryz.func107, Tryz.ntmps107
    go_wp2
    go_ret
    exact ⟨by rw [HS.out]; rfl, rfl⟩
  · have hd : decide (0 ≤ i) = true := by simp; omega
    have hs : inB l i = decide (i < l.length) := by simp [inB, hd]
    have HS := hid hs; clear hs
    go_enter Tryz.func107, Tryz.ntmps107
    go_wp2
    go_ret
    exact ⟨by rw [HS.out]; rfl, rfl⟩

/-- the rule that refuses a move from f to t, or 0. -/
def legalN (l : List Int) (f t : Int) : Int := if inB l f && inB l t then if atD 0 l f != 0 then if atD 0 l t == 0 then 0 else 3 else 2 else 1

theorem q2_any (f t : Int) (b bm bf : Nat) (a : Option Addr) (cap : Nat) (l : List Int) (w : World) (hc : w.cell? ⟨b, 0, none⟩ = some (.slice a l.length cap)) (hm0 : w.cell? ⟨bm, 0, none⟩ = some (.int .i64 f)) (hm1 : w.cell? ⟨bm, 1, none⟩ = some (.int .i64 t))
    (hf : w.cell? ⟨bf, 0, none⟩ = some (.func (.func 107) #[] #[.pointer (some ⟨b, 0, none⟩)])) :
    Calls Tryz.prog 109 #[.pointer (some ⟨bf, 0, none⟩), .pointer (some ⟨bm, 0, none⟩)] w fun r w' => r = .returned (.bool (inB l f && inB l t)) ∧ w = w' := by
  cases h0 : inB l f
  · have c1 := slot_any f b a cap l w hc
    rw [h0] at c1
    have C1 := hid c1; clear c1 h0
    go_enter Tryz.func109, Tryz.ntmps109
    go_wp2_with (go_at_call 107; refine C1.out.mono ?_; rintro e w' ⟨rfl, rfl⟩)
    go_ret
    exact ⟨rfl, rfl⟩
  · have c1 := slot_any f b a cap l w hc
    rw [h0] at c1
    have C1 := hid c1; clear c1 h0
    have C2 := hid (slot_any t b a cap l w hc)
    go_enter Tryz.func109, Tryz.ntmps109
    go_wp2_with fail
    refine C1.out.mono ?_
    rintro e w' ⟨rfl, rfl⟩
    go_wp2_with fail
    refine C2.out.mono ?_
    rintro e w' ⟨rfl, rfl⟩
    go_wp2_with fail
    go_ret
    exact ⟨by simp, rfl⟩

theorem q3_any (f : Int) (b bm : Nat) (a : Option Addr) (cap : Nat) (l : List Int) (w : World) (hS : Ints w a cap l) (hc : w.cell? ⟨b, 0, none⟩ = some (.slice a l.length cap)) (hm0 : w.cell? ⟨bm, 0, none⟩ = some (.int .i64 f)) (h0 : 0 ≤ f) (h1 : f < l.length) :
    Calls Tryz.prog 110 #[.pointer (some ⟨b, 0, none⟩), .pointer (some ⟨bm, 0, none⟩)] w fun r w' => r = .returned (.bool (atD 0 l f != 0)) ∧ w = w' := by
  go_enter Tryz.func110, Tryz.ntmps110
  go_wp2_with (with_reducible refine wpList_idx _ 0 E_ints F_int cInt1 (by with_unfolding_all rfl) (by with_unfolding_all rfl) (hS) (by first | omega | (simp; done)) (by first | omega | (simp; done)) (fun _ => by with_unfolding_all rfl) (fun _ => ?_))
  go_ret
  exact ⟨rfl, rfl⟩
theorem q4_any (t : Int) (b bm : Nat) (a : Option Addr) (cap : Nat) (l : List Int) (w : World) (hS : Ints w a cap l) (hc : w.cell? ⟨b, 0, none⟩ = some (.slice a l.length cap)) (hm1 : w.cell? ⟨bm, 1, none⟩ = some (.int .i64 t)) (h0 : 0 ≤ t) (h1 : t < l.length) :
    Calls Tryz.prog 111 #[.pointer (some ⟨b, 0, none⟩), .pointer (some ⟨bm, 0, none⟩)] w fun r w' => r = .returned (.bool (atD 0 l t == 0)) ∧ w = w' := by
  go_enter Tryz.func111, Tryz.ntmps111
  go_wp2_with (with_reducible refine wpList_idx _ 0 E_ints F_int cInt1 (by with_unfolding_all rfl) (by with_unfolding_all rfl) (hS) (by first | omega | (simp; done)) (by first | omega | (simp; done)) (fun _ => by with_unfolding_all rfl) (fun _ => ?_))
  go_ret
  exact ⟨rfl, rfl⟩

theorem inB_le {l : List Int} {i : Int} (h : inB l i = true) : 0 ≤ i ∧ i < l.length := by simpa [inB] using h

theorem legal_any (f t : Int) (a : Option Addr) (cap : Nat) (l : List Int) (w : World) (hS : Ints w a cap l) :
    Calls Tryz.prog 57 #[.slice a l.length cap, .agg #[.int .i64 f, .int .i64 t]] w fun r w' => r = .returned (.int .i64 (legalN l f t)) ∧ Below w.heap.size w w' := by
  go_enter Tryz.func57, Tryz.ntmps57
  go_wp2_with fail
  obtain ⟨W, hW⟩ : ∃ W, W = ((((w.alloc (.cells #[.slice a l.length cap] 22)).alloc (.cells #[.int .i64 f, .int .i64 t] 55)).alloc
      (.cells #[.func (.func 107) #[] #[.pointer (some ⟨w.heap.size, 0, none⟩)]] 163)).alloc (.cells #[.func (.func 109) #[] #[.pointer (some ⟨w.heap.size + 1 + 1, 0, none⟩), .pointer (some ⟨w.heap.size + 1, 0, none⟩)],
        .func (.func 110) #[] #[.pointer (some ⟨w.heap.size, 0, none⟩), .pointer (some ⟨w.heap.size + 1, 0, none⟩)], .func (.func 111) #[] #[.pointer (some ⟨w.heap.size, 0, none⟩), .pointer (some ⟨w.heap.size + 1, 0, none⟩)]] 26)) := ⟨_, rfl⟩
  have hB : Below w.heap.size w W := by rw [hW]; exact bal (bal (bal (bal (Below.refl _ _) _) _) _) _
  have e0 : W.cell? ⟨w.heap.size, 0, none⟩ = some (.slice a l.length cap) := by rw [hW]; simp [go_sem]
  have e1 : W.cell? ⟨w.heap.size + 1, 0, none⟩ = some (.int .i64 f) := by rw [hW]; simp [go_sem]
  have e2 : W.cell? ⟨w.heap.size + 1, 1, none⟩ = some (.int .i64 t) := by rw [hW]; simp [go_sem]
  have e3 : W.cell? ⟨w.heap.size + 1 + 1, 0, none⟩ = some (.func (.func 107) #[] #[.pointer (some ⟨w.heap.size, 0, none⟩)]) := by rw [hW]; simp [go_sem]
  have e4 : Reps cFn 1 W (some ⟨w.heap.size + 1 + 1 + 1, 0, none⟩) 3 [(109, #[.pointer (some ⟨w.heap.size + 1 + 1, 0, none⟩), .pointer (some ⟨w.heap.size + 1, 0, none⟩)]),
      (110, #[.pointer (some ⟨w.heap.size, 0, none⟩), .pointer (some ⟨w.heap.size + 1, 0, none⟩)]), (111, #[.pointer (some ⟨w.heap.size, 0, none⟩), .pointer (some ⟨w.heap.size + 1, 0, none⟩)])] := by
    rw [hW]
    exact reps_newN cFnS [_, _, _] 3 rfl (by decide) _ _ (by simp) rfl
  have hS1 := hS.below hB
  have K := ask_any _ 3 _ _ _ (inB l f && inB l t) (atD 0 l f != 0) (atD 0 l t == 0) W e4 (q2_any f t _ _ _ a cap l W e0 e1 e2 e3)
    (fun h => q3_any f _ _ a cap l W hS1 e0 e1 (inB_le (by simp at h; exact h.1)).1 (inB_le (by simp at h; exact h.1)).2)
    (fun h _ => q4_any t _ _ a cap l W hS1 e0 e2 (inB_le (by simp at h; exact h.2)).1 (inB_le (by simp at h; exact h.2)).2)
  rw [← hW]
  refine K.mono ?_
  clear hW e0 e1 e2 e3 e4 hS1 K
  rintro e w' ⟨rfl, rfl⟩
  go_wp2_with fail
  go_ret
  exact ⟨by simp [legalN, askN], hB⟩
end Go.Proofs.YtmomeggnegcheaaGreatDoor

/- Contracts: Clone, numbers, next. Conditions: the slice can be read and has fewer than 2^20 elements. -/
namespace Go.Proofs.YtmomeggnegcheaaGreatDoor
open Go.RowKit
set_option maxHeartbeats 400000
set_option maxRecDepth 100000

theorem own_made0 {α : Type} {c : α → Value} {sz B : Nat} {e : TypeId} (hc : ∀ x, (c x).cells.size = sz) (w : World) {H : Nat} (hH : w.heap.size = H) (hB : B ≤ H) : Own c sz B e (w.alloc (.cells #[] e)) (.slice (some ⟨H, 0, none⟩) 0 0) [] := by
  subst hH
  exact ⟨hc, World.ownsRow_made w #[] 0 hB (Nat.zero_le _) (by simp)⟩

theorem numbers_any (a : Option Addr) (cap : Nat) (l : List Int) (w : World) (hS : Ints w a cap l) (hsm : l.length ≤ 1048576) :
    Calls Tryz.prog 11 #[.slice a l.length cap] w fun r w' => ∃ v, r = .returned v ∧ OwnI w.heap.size w' v l ∧ Below w.heap.size w w' := by
  have hcap := hS.le
  have hm := hS.max
  go_enter Tryz.func11, Tryz.ntmps11
  go_wp2_with ((with_reducible refine wpList_app (B := w.heap.size) (l := []) (ys := l) E_ints (by with_unfolding_all rfl) (by with_unfolding_all rfl) (own_made0 cIntS w rfl (Nat.le_refl _)) (hS.alloc _) cIntO (by simp; omega) (by simp) (by simp; omega) ?_); intro v1 w1 ho1 hg1 _)
  go_ret
  refine ⟨v1, rfl, ho1, ?_⟩
  exact (bal (Below.refl _ _) _).grown hg1 (by simp) (fun k hk => by cases hk; exact Nat.le_refl _)

theorem Clone_any (a : Option Addr) (cap : Nat) (l : List Int) (w : World) (hS : Ints w a cap l) (hsm : l.length ≤ 1048576) (h0 : 0 < l.length) :
    Calls Tryz.prog 114 #[.slice a l.length cap] w fun r w' => ∃ v, r = .returned v ∧ OwnI w.heap.size w' v l ∧ Below w.heap.size w w' := by
  have hcap := hS.le
  have hm := hS.max
  obtain ⟨b, o, rfl, _⟩ := hS.cells (by decide) 0 0 h0
  have heq := fun (w : World) (a : Option Addr) (n c : Nat) => Lib.run_eql_slice_nil (P := Tryz.prog) w 22 3 a n c 0 0 Tryz.underlying22
  go_enter Tryz.func114, Tryz.ntmps114
  go_wp2_with ((with_reducible refine wpList_app (B := w.heap.size) (l := []) (ys := l) E_ints (by with_unfolding_all rfl) (by with_unfolding_all rfl) (own_made0 cIntS w rfl (Nat.le_refl _)) (hS.alloc _) cIntO (by simp; omega) (by simp) (by simp; omega) ?_); intro v1 w1 ho1 hg1 _)
  go_ret
  refine ⟨v1, rfl, ho1, ?_⟩
  exact (bal (Below.refl _ _) _).grown hg1 (by simp) (fun k hk => by cases hk; exact Nat.le_refl _)

/-- the list after a move. -/
def nextL (l : List Int) (f t : Int) : List Int := (l.set t.toNat (atD 0 l f)).set f.toNat 0

theorem next_any (f t : Int) (a : Option Addr) (cap : Nat) (l : List Int) (w : World) (hS : Ints w a cap l) (hsm : l.length ≤ 1048576) (h0 : 0 ≤ f) (h1 : f < l.length) (h2 : 0 ≤ t) (h3 : t < l.length) :
    Calls Tryz.prog 59 #[.slice a l.length cap, .agg #[.int .i64 f, .int .i64 t]] w fun r w' => ∃ v, r = .returned v ∧ OwnI w.heap.size w' v (nextL l f t) ∧ Below w.heap.size w w' := by
  have hcap := hS.le
  have hm := hS.max
  go_enter Tryz.func59, Tryz.ntmps59
  go_wp2_with fail
  refine (Clone_any a cap l _ (hS.alloc _) hsm (by omega)).mono ?_
  rintro e w1 ⟨v1, rfl, ho1, hb1⟩
  obtain ⟨a1, cap1, rfl, hr1, hf1, hbl1⟩ := ho1.reps
  go_wp2_with fail
  obtain ⟨g, rfl, hgB, hcf, hff, _⟩ := own_store cInt1 ho1 0 f h0 h1
  obtain ⟨g', e1, _, hct, hft, _⟩ := own_store cInt1 ho1 0 t h2 h3
  cases e1
  obtain ⟨g', e1, _, _, _, ho2, hg2⟩ := own_store cInt1 ho1 (atD 0 l f) t h2 h3
  cases e1
  have ho2' : OwnI (w.heap.size + 1) (w1.setCell ⟨g, t.toNat, none⟩ (cInt (atD 0 l f))) (.slice (some ⟨g, 0, none⟩) (l.set t.toNat (atD 0 l f)).length cap1) (l.set t.toNat (atD 0 l f)) := by simpa using ho2
  obtain ⟨g', e1, _, _, _, ho3, hg3⟩ := own_store cInt1 ho2' 0 f h0 (by simpa using h1)
  cases e1
  clear ho2 ho2'
  have HO3 := hid ho3; clear ho3
  have HG2 := hid hg2; clear hg2
  have HG3 := hid hg3; clear hg3
  obtain ⟨b', o', e1, hcv⟩ := hr1.cells (by decide) 0 f.toNat (by omega)
  cases e1
  have hcv := hcv 0 (.int .i64 (atD 0 l f)) rfl
  simp at hcv
  have hx0 : w1.cell? ⟨w.heap.size, 0, none⟩ = some (.int .i64 f) := by rw [hb1.cell (by simp)]; simp [go_sem]
  have hx1 : w1.cell? ⟨w.heap.size, 1, none⟩ = some (.int .i64 t) := by rw [hb1.cell (by simp)]; simp [go_sem]
  have hgB' : w.heap.size + 1 ≤ g := by simpa using hgB
  obtain ⟨vt, hvt⟩ := Option.isSome_iff_exists.1 hct
  obtain ⟨vf, hvf⟩ := cell?_setCell_some (w := w1) (p := ⟨g, t.toNat, none⟩) (x := .int .i64 (atD 0 l f)) (q := ⟨g, f.toNat, none⟩) (v := .int .i64 (atD 0 l f)) hcv
  go_region
  go_wp2
  go_ret
  refine ⟨_, rfl, ?_, ?_⟩
  · have := HO3.out.mono (B' := w.heap.size) (by omega)
    simp at this
    exact this.drew
  · have b1 := bnext (bal (Below.refl _ w) (.cells #[.int .i64 f, .int .i64 t] 55)) hb1
    have b2 := b1.grown HG2.out b1.size (fun k hk => by cases hk; omega)
    exact (b2.grown HG3.out b2.size (fun k hk => by cases hk; omega)).drew
end Go.Proofs.YtmomeggnegcheaaGreatDoor

/- Contracts: checkMoves, Legal, Next, replay. Conditions: slices readable, numbers fit an int, sizes as stated. -/
namespace Go.Proofs.YtmomeggnegcheaaGreatDoor
open Go.RowKit
set_option maxHeartbeats 400000
set_option maxRecDepth 100000

def manyE (n : Nat) : Int := if 1000 < n then 5 else 0
theorem checkMoves_any (a : Option Addr) (cap : Nat) (n : Nat) (w : World) (hn : n ≤ 1048576) :
    Calls Tryz.prog 56 #[.slice a n cap] w fun r w' => r = .returned (.int .i64 (manyE n)) ∧ w = w' := by
  by_cases h : 1000 < n
  · have hs : manyE n = 5 := by simp [manyE, h]
    rw [hs]
    go_enter Tryz.func56, Tryz.ntmps56
    go_wp2_with (go_at_call 89; refine (when_any _ _ _).mono ?_; rintro e w' ⟨rfl, rfl⟩)
    go_ret
    exact ⟨rfl, rfl⟩
  · have hs : manyE n = 0 := by simp [manyE, h]
    rw [hs]
    go_enter Tryz.func56, Tryz.ntmps56
    go_wp2_with (go_at_call 89; refine (when_any _ _ _).mono ?_; rintro e w' ⟨rfl, rfl⟩)
    go_ret
    exact ⟨rfl, rfl⟩

theorem Legal_any (f t : Int) (a : Option Addr) (cap : Nat) (l : List Int) (w : World) (hS : Ints w a cap l) (hI : ∀ x ∈ l, InI x) :
    Calls Tryz.prog 38 #[.slice a l.length cap, .agg #[.int .i64 f, .int .i64 t]] w fun r w' => r = .returned (.tuple #[.int .i64 (if checkStand l = 0 then legalN l f t else 0), .int .i64 (checkStand l)]) ∧ Below w.heap.size w w' := by
  by_cases h : checkStand l = 0
  · have hc := CheckStand_any a cap l (w.alloc (.cells #[.int .i64 f, .int .i64 t] 55)) (hS.alloc _) hI
    rw [h] at hc
    rw [h]
    simp only [if_true]
    clear h
    have HC := hid hc; clear hc
    go_enter Tryz.func38, Tryz.ntmps38
    go_wp2_with fail
    refine HC.out.mono ?_
    rintro e w1 ⟨rfl, hb1⟩
    have b1 := bnext (bal (Below.refl _ w) _) hb1
    have hx0 : w1.cell? ⟨w.heap.size, 0, none⟩ = some (.int .i64 f) := by rw [hb1.cell (by simp)]; simp [go_sem]
    have hx1 : w1.cell? ⟨w.heap.size, 1, none⟩ = some (.int .i64 t) := by rw [hb1.cell (by simp)]; simp [go_sem]
    go_wp2_with fail
    refine (legal_any f t a cap l w1 (hS.below b1)).mono ?_
    rintro e w2 ⟨rfl, hb2⟩
    go_wp2_with fail
    go_ret2
    exact ⟨rfl, bnext b1 hb2⟩
  · have hc := CheckStand_any a cap l (w.alloc (.cells #[.int .i64 f, .int .i64 t] 55)) (hS.alloc _) hI
    have hne : (checkStand l != 0) = true := by simpa using h
    rw [if_neg h]
    have HC := hid hc; clear hc
    go_enter Tryz.func38, Tryz.ntmps38
    go_wp2_with fail
    refine HC.out.mono ?_
    rintro e w1 ⟨rfl, hb1⟩
    go_wp2_with fail
    go_ret2
    exact ⟨rfl, bnext (bal (Below.refl _ w) _) hb1⟩

theorem legalN_zero {l : List Int} {f t : Int} (h : legalN l f t = 0) : 0 ≤ f ∧ f < l.length ∧ 0 ≤ t ∧ t < l.length ∧ atD 0 l f ≠ 0 ∧ atD 0 l t = 0 := by
  unfold legalN at h
  split at h
  · rename_i h1
    simp only [Bool.and_eq_true] at h1
    have a1 := inB_le h1.1
    have a2 := inB_le h1.2
    split at h
    · rename_i h2
      split at h
      · rename_i h3
        exact ⟨a1.1, a1.2, a2.1, a2.2, by simpa using h2, by simpa using h3⟩
      · omega
    · omega
  · omega

/-- The answer of Next: the list, or none, and the error. -/
def nextE (l : List Int) (f t : Int) : Int := if checkStand l = 0 then (if legalN l f t = 0 then 0 else 18) else checkStand l
theorem Next_any (f t : Int) (a : Option Addr) (cap : Nat) (l : List Int) (w : World) (hS : Ints w a cap l) (hI : ∀ x ∈ l, InI x) (hsm : l.length ≤ 1048576) :
    Calls Tryz.prog 36 #[.slice a l.length cap, .agg #[.int .i64 f, .int .i64 t]] w fun r w' => ∃ v, r = .returned (.tuple #[v, .int .i64 (nextE l f t)]) ∧ OwnI w.heap.size w' v (if nextE l f t = 0 then nextL l f t else []) ∧ Below w.heap.size w w' := by
  by_cases h : checkStand l = 0
  · have hc := CheckStand_any a cap l (w.alloc (.cells #[.int .i64 f, .int .i64 t] 55)) (hS.alloc _) hI
    rw [h] at hc
    have HC := hid hc; clear hc
    by_cases h2 : legalN l f t = 0
    · have hE : nextE l f t = 0 := by simp [nextE, h, h2]
      rw [hE]
      simp only [if_true]
      have HH := hid h; clear h hE
      obtain ⟨z1, z2, z3, z4, _, _⟩ := legalN_zero h2
      have H2 := hid h2; clear h2
      go_enter Tryz.func36, Tryz.ntmps36
      go_wp2_with fail
      refine HC.out.mono ?_
      rintro e w1 ⟨rfl, hb1⟩
      have b1 := bnext (bal (Below.refl _ w) _) hb1
      have hx0 : w1.cell? ⟨w.heap.size, 0, none⟩ = some (.int .i64 f) := by rw [hb1.cell (by simp)]; simp [go_sem]
      have hx1 : w1.cell? ⟨w.heap.size, 1, none⟩ = some (.int .i64 t) := by rw [hb1.cell (by simp)]; simp [go_sem]
      have hlt : w.heap.size < w1.heap.size := by have := hb1.size; simp at this; omega
      go_wp2_with (go_at_call 54; refine (first_any _ _ [_] _ (reps_newN cIntS [_] 1 rfl (by decide) _ _ (by simp) rfl)).mono ?_; rintro e w' ⟨rfl, rfl⟩)
      refine (legal_any f t a cap l _ ((hS.below b1).alloc _)).mono ?_
      rw [H2.out]
      rintro e w2 ⟨rfl, hb2⟩
      have b2 := bnext (bal b1 _) hb2
      have hx0 : w2.cell? ⟨w.heap.size, 0, none⟩ = some (.int .i64 f) := by rw [hb2.cell (by simp; omega)]; simp [go_sem, hx0, hlt]
      have hx1 : w2.cell? ⟨w.heap.size, 1, none⟩ = some (.int .i64 t) := by rw [hb2.cell (by simp; omega)]; simp [go_sem, hx1, hlt]
      go_wp2_with fail
      refine (next_any f t a cap l w2 (hS.below b2) hsm z1 z2 z3 z4).mono ?_
      rintro e w3 ⟨v3, rfl, ho3, hb3⟩
      go_wp2_with fail
      go_ret2
      exact ⟨v3, rfl, ho3.mono b2.size, bnext b2 hb3⟩
    · have hE : nextE l f t = 18 := by simp [nextE, h, h2]
      rw [hE]
      have hne : (legalN l f t != 0) = true := by simpa using h2
      simp only [show ¬ (18 : Int) = 0 by decide, if_false]
      clear h hE h2
      go_enter Tryz.func36, Tryz.ntmps36
      go_wp2_with fail
      refine HC.out.mono ?_
      rintro e w1 ⟨rfl, hb1⟩
      have b1 := bnext (bal (Below.refl _ w) _) hb1
      have hx0 : w1.cell? ⟨w.heap.size, 0, none⟩ = some (.int .i64 f) := by rw [hb1.cell (by simp)]; simp [go_sem]
      have hx1 : w1.cell? ⟨w.heap.size, 1, none⟩ = some (.int .i64 t) := by rw [hb1.cell (by simp)]; simp [go_sem]
      have hlt : w.heap.size < w1.heap.size := by have := hb1.size; simp at this; omega
      go_wp2_with (go_at_call 54; refine (first_any _ _ [_] _ (reps_newN cIntS [_] 1 rfl (by decide) _ _ (by simp) rfl)).mono ?_; rintro e w' ⟨rfl, rfl⟩)
      refine (legal_any f t a cap l _ ((hS.below b1).alloc _)).mono ?_
      rintro e w2 ⟨rfl, hb2⟩
      go_wp2_with fail
      go_ret2
      exact ⟨_, rfl, own_nil cIntS, bnext (bal b1 _) hb2⟩
  · have hc := CheckStand_any a cap l (w.alloc (.cells #[.int .i64 f, .int .i64 t] 55)) (hS.alloc _) hI
    have hE : nextE l f t = checkStand l := by simp [nextE, h]
    rw [hE, if_neg h]
    have hne : (checkStand l != 0) = true := by simpa using h
    have HC := hid hc; clear hc hE
    go_enter Tryz.func36, Tryz.ntmps36
    go_wp2_with fail
    refine HC.out.mono ?_
    rintro e w1 ⟨rfl, hb1⟩
    go_wp2_with (go_at_call 54; refine (first_any _ _ [_] _ (reps_newN cIntS [_] 1 rfl (by decide) _ _ (by simp) rfl)).mono ?_; rintro e w' ⟨rfl, rfl⟩)
    go_ret2
    exact ⟨_, rfl, own_nil cIntS, bal (bnext (bal (Below.refl _ w) _) hb1) _⟩
end Go.Proofs.YtmomeggnegcheaaGreatDoor

/- Contract: replay. Conditions: slices readable, sizes as stated. -/
namespace Go.Proofs.YtmomeggnegcheaaGreatDoor
open Go.RowKit
set_option maxHeartbeats 400000
set_option maxRecDepth 100000

def replayGo : List Int → List (Int × Int) → Nat → List (Int × Int) → List Int × List (Int × Int)
  | s, [], _, aside => (s, aside)
  | s, m :: r, k, aside => if legalN s m.1 m.2 = 0 then replayGo (nextL s m.1 m.2) r (k + 1) aside else replayGo s r (k + 1) (aside ++ [((k : Int) + 1, legalN s m.1 m.2)])
def replayL (l : List Int) (ms : List (Int × Int)) : List Int × List (Int × Int) := replayGo l ms 0 []

theorem replayGo_step (s : List Int) (ms : List (Int × Int)) (k : Nat) (aside : List (Int × Int)) (h : k < ms.length) : replayGo s (ms.drop k) k aside =
    if legalN s (atD (0, 0) ms k).1 (atD (0, 0) ms k).2 = 0 then replayGo (nextL s (atD (0, 0) ms k).1 (atD (0, 0) ms k).2) (ms.drop (k + 1)) (k + 1) aside
    else replayGo s (ms.drop (k + 1)) (k + 1) (aside ++ [((k : Int) + 1, legalN s (atD (0, 0) ms k).1 (atD (0, 0) ms k).2)]) := by
  have e2 : atD (0, 0) ms k = ms[k] := by simp [atD, h]
  rw [List.drop_eq_getElem_cons h, replayGo, e2]

theorem nextL_len (l : List Int) (f t : Int) : (nextL l f t).length = l.length := by simp [nextL]
theorem legalN_pos {l : List Int} {f t : Int} (h : legalN l f t ≠ 0) : 1 ≤ legalN l f t ∧ legalN l f t ≤ 3 := by
  unfold legalN at *
  repeat' split
  all_goals simp_all

abbrev OwnP (B : Nat) (e : TypeId) (w : World) (v : Value) (l : List (Int × Int)) : Prop := Own cPair 2 B e w v l
theorem replay_any (a a2 : Option Addr) (cap cap2 : Nat) (l : List Int) (ms : List (Int × Int)) (w : World) (hS : Ints w a cap l) (hM : Pairs w a2 cap2 ms) (hsm : l.length ≤ 1048576) (hl0 : 0 < l.length) (hms : ms.length ≤ 1048576) :
    Calls Tryz.prog 73 #[.slice a l.length cap, .slice a2 ms.length cap2] w fun r w' => ∃ a' cap' v2, r = .returned (.tuple #[.slice a' l.length cap', v2]) ∧ (replayL l ms).1.length = l.length ∧ Ints w' a' cap' (replayL l ms).1 ∧
      OwnP w.heap.size 54 w' v2 (replayL l ms).2 ∧ (∀ b, a' = some b → w.heap.size ≤ b.block) ∧ Below w.heap.size w w' := by
  have hcap := hS.le
  have hm := hS.max
  have hcap2 := hM.le
  have hm2 := hM.max
  go_enter Tryz.func73, Tryz.ntmps73
  go_wp2_with fail
  refine (Clone_any a cap l w hS hsm hl0).mono ?_
  rintro e w1 ⟨v1, rfl, ho1, hb1⟩
  obtain ⟨a1, cap1, rfl, hr1, hf1, _⟩ := ho1.reps
  go_wp2_with fail
  go_loopw [14, 0, 6] (fun i v0 v6 wr => ∃ (k : Nat) (s : List Int) (aside : List (Int × Int)) (a0 : Option Addr) (cap0 : Nat), k ≤ ms.length ∧ i = .int .i64 k ∧ v0 = .slice a0 l.length cap0 ∧ s.length = l.length ∧ Ints wr a0 cap0 s ∧
      OwnP w.heap.size 54 wr v6 aside ∧ aside.length ≤ k ∧ (∀ b, a0 = some b → w.heap.size ≤ b.block ∧ b.block < wr.heap.size ∧ v6.ownBlock ≠ some b.block) ∧ Below w.heap.size w wr ∧ replayGo s (ms.drop k) k aside = replayL l ms)
    (fun i _ _ _ => ms.length - (intOf i).toNat)
  case atStart => exact ⟨0, l, [], a1, cap1, by omega, rfl, rfl, rfl, hr1, own_nil cPairS, by simp, fun b hb => ⟨(hf1 b hb).1, (hf1 b hb).2, by simp [Value.ownBlock]⟩, hb1, rfl⟩
  case round =>
    obtain ⟨k, s, aside, a0, cap0, hk, rfl, rfl, hsl, hSr, hA, hal, hsep, hb, hgo⟩ := hrel
    have hcap0 := hSr.le
    have hmax0 := hSr.max
    have HSL := hid hsl; clear hsl
    by_cases hlt : k < ms.length
    · have hstep := replayGo_step s ms k aside hlt
      rw [hgo] at hstep
      have HST := hid hstep; clear hstep
      have HG := hid hgo; clear hgo
      have HSEP := hid hsep; clear hsep
      have hMr := hM.below hb
      obtain ⟨f, hf⟩ : ∃ f, f = (atD (0, 0) ms k).1 := ⟨_, rfl⟩
      obtain ⟨t, ht⟩ : ∃ t, t = (atD (0, 0) ms k).2 := ⟨_, rfl⟩
      have hst := HST.out
      rw [← hf, ← ht] at hst
      have HST2 := hid hst; clear hst HST
      have HF := hid hf; clear hf
      have HT := hid ht; clear ht
      go_wp2_with (with_reducible refine wpList_idxS _ (0, 0) E_moves F_move cPair1 (by with_unfolding_all rfl) (by with_unfolding_all rfl) (hMr) (by first | omega | (simp; done)) (by first | omega | (simp; done)) (fun _ => by with_unfolding_all rfl) (fun _ => ?_))
      rw [← HF.out, ← HT.out]
      have hc := legal_any f t a0 cap0 s (wr.alloc (.cells #[.int .i64 f, .int .i64 t] 55)) (hSr.alloc _)
      rw [HSL.out] at hc
      by_cases hz : legalN s f t = 0
      · rw [hz] at hc
        refine hc.mono ?_
        clear hc
        rintro e w2 ⟨rfl, hb2⟩
        have hlt2 : wr.heap.size < w2.heap.size := by have := hb2.size; simp at this; omega
        have hx0 : w2.cell? ⟨wr.heap.size, 0, none⟩ = some (.int .i64 f) := by rw [hb2.cell (by simp)]; simp [go_sem]
        have hx1 : w2.cell? ⟨wr.heap.size, 1, none⟩ = some (.int .i64 t) := by rw [hb2.cell (by simp)]; simp [go_sem]
        have b2 := bnext (bal hb (.cells #[.int .i64 f, .int .i64 t] 55)) hb2
        have HZ := hid hz; clear hz
        go_wp2_with fail
        obtain ⟨z1, z2, z3, z4, _, _⟩ := legalN_zero HZ.out
        have hc := next_any f t a0 cap0 s w2 ((hSr.alloc _).below hb2) (by rw [HSL.out]; exact hsm) z1 z2 z3 z4
        rw [HSL.out] at hc
        refine hc.mono ?_
        clear hc
        rintro e w3 ⟨v3, rfl, ho3, hb3⟩
        obtain ⟨a3, cap3, rfl, hr3, hf3, _⟩ := ho3.reps
        rw [show (nextL s f t).length = l.length by rw [nextL_len, HSL.out]]
        go_wp2_with fail
        have hA3 := ((hA.alloc (.cells #[.int .i64 f, .int .i64 t] 55)).below hb2).below hb3
        have hst := HST2.out
        rw [if_pos HZ.out] at hst
        go_roundw
        case rel =>
          refine ⟨k + 1, nextL s f t, aside, a3, cap3, by omega, by go_num, rfl, by rw [nextL_len]; exact HSL.out, hr3, hA3, by omega, fun b hb => ?_, bnext b2 hb3, hst.symm⟩
          have h3 := hf3 b hb
          refine ⟨Nat.le_trans b2.size h3.1, h3.2, fun e => ?_⟩
          have := (hA.lt b.block e).2
          have := h3.1
          omega
        case measure => simp [intOf]; omega
      · have hq := legalN_pos hz
        obtain ⟨q, hqe⟩ : ∃ q, q = legalN s f t := ⟨_, rfl⟩
        rw [← hqe] at hc hz hq
        have HQ := hid hqe; clear hqe
        refine hc.mono ?_
        clear hc
        rintro e w2 ⟨rfl, hb2⟩
        have b2 := bnext (bal hb (.cells #[.int .i64 f, .int .i64 t] 55)) hb2
        have hA2 := (hA.alloc (.cells #[.int .i64 f, .int .i64 t] 55)).below hb2
        have hne : (q != 0) = true := by simpa using hz
        have HZ := hid hz; clear hz
        go_wp2_with ((with_reducible refine wpList_app (B := w.heap.size) (l := aside) (ys := [((k : Int) + 1, q)]) E_refs (by with_unfolding_all rfl) (by with_unfolding_all rfl) (hA2.alloc _) (reps_new1 cPairS ((k : Int) + 1, q) _ _ (by simp) rfl) cPairO (by simp; omega) (by simp; have := b2.size; omega) (by simp; omega) ?_); intro v4 w4 ho4 hg4 hat4)
        have b4 := below_own (bal b2 (.cells #[.int .i64 ((k : Int) + 1), .int .i64 q] 54)) hg4 (hA2.alloc _) (Nat.le_refl _)
        have hsep := HSEP.out
        have hS4 : Ints w4 a0 cap0 s := ((((hSr.alloc (.cells #[.int .i64 f, .int .i64 t] 55)).below hb2).alloc (.cells #[.int .i64 ((k : Int) + 1), .int .i64 q] 54))).grown hg4 (fun b hb e => (hsep b hb).2.2 e.symm)
        have hst := HST2.out
        rw [if_neg (by rw [← HQ.out]; exact HZ.out), ← HQ.out] at hst
        have hsz := hg4.size
        have hsz2 := hb2.size
        simp at hsz hsz2
        go_roundw
        case rel =>
          refine ⟨k + 1, s, _, a0, cap0, by omega, by go_num, rfl, HSL.out, hS4, ho4, by simp; omega, fun b hb => ?_, b4, hst.symm⟩
          have h3 := hsep b hb
          refine ⟨h3.1, by omega, fun e => ?_⟩
          rcases hat4 with h | h
          · exact h3.2.2 (h ▸ e)
          · rw [h] at e
            simp at e
            omega
        case measure => simp [intOf]; omega
    · have : k = ms.length := by omega
      subst this
      have e : replayGo s (ms.drop ms.length) ms.length aside = (s, aside) := by simp [replayGo]
      rw [e] at hgo
      have HG := hid hgo; clear hgo e
      go_wp2
      go_ret2
      refine ⟨a0, cap0, _, rfl, ?_, ?_, ?_, fun b hb => (hsep b hb).1, hb⟩
      · rw [← HG.out]; exact HSL.out
      · rw [← HG.out]; exact hSr
      · rw [← HG.out]; exact hA
end Go.Proofs.YtmomeggnegcheaaGreatDoor
