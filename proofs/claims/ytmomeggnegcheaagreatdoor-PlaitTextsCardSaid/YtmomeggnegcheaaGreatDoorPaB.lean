/- Contract: run. Conditions: slice readable, letters small. Contract: CheckPasses. Conditions: slices readable, sizes as stated. Contract: Word. Conditions: slices readable, sizes as stated. -/
import Derived.Test.YtmomeggnegcheaaGreatDoorQA
import Derived.Test.YtmomeggnegcheaaGreatDoorPnA
import Derived.Test.YtmomeggnegcheaaGreatDoorLib1
import Derived.Test.YtmomeggnegcheaaGreatDoorPaA
import Derived.Deep.RegionHeld3
set_option linter.all false
/- Contract: run. Conditions: slice readable, letters small. -/
namespace Go.Proofs.YtmomeggnegcheaaGreatDoor
open Go.RowKit
set_option maxHeartbeats 400000
set_option maxRecDepth 100000

/-- how many letters from the k-th on follow the first one in a direction. -/
def runGo (l : List Int) (by_ : Int) : Nat → Nat → Nat
  | k, 0 => k
  | k, f + 1 => if k < l.length ∧ absI (atD 0 l k) = absI (atD 0 l 0) + by_ * k then runGo l by_ (k + 1) f else k
def runN (l : List Int) (by_ : Int) : Nat := runGo l by_ 1 l.length

theorem run_any (b : Int) (a : Option Addr) (cap : Nat) (l : List Int) (w : World) (hS : Ints w a cap l) (hb : b = 1 ∨ b = -1) (h0 : 0 < l.length) (hsm : l.length ≤ 1048576) (hL : ∀ k : Nat, k < l.length → -1000 ≤ atD 0 l k ∧ atD 0 l k ≤ 1000) :
    Calls Tryz.prog 95 #[.slice a l.length cap, .int .i64 b] w fun r w' => r = .returned (.int .i64 (runN l b)) ∧ Below w.heap.size w w' := by
  have hcap := hS.le
  have hm := hS.max
  go_enter Tryz.func95, Tryz.ntmps95
  go_wp2
  go_loopw [5] (fun i wr => ∃ k f : Nat, 1 ≤ k ∧ k ≤ l.length ∧ l.length ≤ k + f ∧ i = .int .i64 k ∧ runGo l b k f = runN l b ∧ Below w.heap.size w wr) (fun i _ => l.length - (intOf i).toNat)
  case atStart => exact ⟨1, l.length, by omega, by omega, by omega, rfl, rfl, Below.refl _ _⟩
  case round =>
    obtain ⟨k, f, hk1, hk, hf, rfl, hr, hbr⟩ := hrel
    have HR := hid hr; clear hr
    have hSr := hS.below hbr
    have hl0 := hL 0 h0
    by_cases hlt : k < l.length
    · have hlk := hL k hlt
      have hd : decide (k < l.length) = true := by simpa using hlt
      have c1 : ∀ w' : World, Calls Tryz.prog 96 #[.int .i64 (atD 0 l k)] w' fun r w'' => r = .returned (.int .i64 (absI (atD 0 l k))) ∧ w' = w'' := fun w' => size_any _ w' (by omega) (by omega)
      have c2 : ∀ w' : World, Calls Tryz.prog 96 #[.int .i64 (atD 0 l 0)] w' fun r w'' => r = .returned (.int .i64 (absI (atD 0 l 0))) ∧ w' = w'' := fun w' => size_any _ w' (by simp at hl0; omega) (by simp at hl0; omega)
      have C1 := hid c1; clear c1
      have C2 := hid c2; clear c2
      go_wp2_with fail
      refine wp_region_quiet_lit (by kernel_rfl) (by kernel_rfl) ?_
      repeat (first | ((with_reducible refine wpQD_idxG 0 E_ints F_int cInt1 (by with_unfolding_all rfl) (by with_unfolding_all rfl) (hSr) (rfl) (by first | omega | (simp; done)) (by first | omega | (simp; done)) (fun _ => by with_unfolding_all rfl) (by with_unfolding_all rfl) (fun _ => by with_unfolding_all rfl) (fun _ => ?_)); (try simp only [Act.put, List.setIfInBounds_toArray, List.set_cons_zero, List.set_cons_succ]); (try simp only [cInt])) | quiet_step (first | exact quiet_same (C1.out _) | exact quiet_same (C2.out _)))
      refine wpQuiet_nil ?_
      intro w2 hb2
      replace hb2 := below_drewN hb2
      have hbk : -1048576 ≤ b * (k : Int) ∧ b * (k : Int) ≤ 1048576 := by
        rcases hb with rfl | rfl
        · omega
        · omega
      have ha0 : 0 ≤ absI (atD 0 l 0) ∧ absI (atD 0 l 0) ≤ 1000 := by simp at hl0; unfold absI; split <;> omega
      have hw1 : IntKind.i64.wrap (b * (k : Int)) = b * k := IntWalk.i64_in _ (by omega)
      have hw2 : IntKind.i64.wrap (absI (atD 0 l 0) + b * (k : Int)) = absI (atD 0 l 0) + b * k := IntWalk.i64_in _ (by omega)
      have HW1 := hid hw1; clear hw1
      have HW2 := hid hw2; clear hw2
      have HBK := hid hbk; clear hbk
      obtain ⟨g, rfl⟩ : ∃ g, f = g + 1 := ⟨f - 1, by omega⟩
      go_wp2_with fail
      · have hq : (absI (atD 0 l k) == IntKind.i64.wrap (absI (atD 0 l 0) + IntKind.i64.wrap (b * (k : Int)))) = true := by assumption
        rw [HW1.out, HW2.out] at hq
        have hr := HR.out
        rw [runGo, if_pos ⟨hlt, by simpa using hq⟩] at hr
        exact ⟨⟨k + 1, g, by omega, by omega, by omega, by go_num, hr, bnext hbr hb2⟩, by simp [intOf]; omega⟩
      · have hq : (absI (atD 0 l k) == IntKind.i64.wrap (absI (atD 0 l 0) + IntKind.i64.wrap (b * (k : Int)))) = false := by assumption
        rw [HW1.out, HW2.out] at hq
        have hr := HR.out
        rw [runGo, if_neg (fun h => by simp [h.2] at hq)] at hr
        go_ret
        exact ⟨by rw [← hr]; rfl, bnext hbr hb2⟩
    · have hd : decide (k < l.length) = false := by simpa using hlt
      have hr := HR.out
      have hr2 : k = runN l b := by
        rw [← hr]
        cases f with
        | zero => rfl
        | succ f => rw [runGo, if_neg (fun h => hlt h.1)]
      have HR2 := hid hr2; clear hr2 hr
      go_wp2_with fail
      refine wp_region_quiet_lit (by kernel_rfl) (by kernel_rfl) ?_
      repeat (first | ((with_reducible refine wpQ_skip (by with_unfolding_all rfl) ?_); (try simp only [Act.put, List.setIfInBounds_toArray, List.set_cons_zero, List.set_cons_succ])) | quiet_step (fail))
      refine wpQuiet_nil ?_
      intro w2 hb2
      replace hb2 := below_drewN hb2
      go_wp2_with fail
      go_ret
      exact ⟨by rw [← HR2.out]; rfl, bnext hbr hb2⟩
end Go.Proofs.YtmomeggnegcheaaGreatDoor

/- Contract: CheckPasses. Conditions: slices readable, sizes as stated. -/
namespace Go.Proofs.YtmomeggnegcheaaGreatDoor
open Go.RowKit
set_option maxHeartbeats 1000000
set_option maxRecDepth 100000

def whenV (b : Bool) (e : Int) : Int := if b then e else 0
@[go_sem] theorem whenV_true (e : Int) : whenV true e = e := rfl
@[go_sem] theorem whenV_false (e : Int) : whenV false e = 0 := rfl
theorem whenV_any (b : Bool) (e : Int) (w : World) :
    Calls Tryz.prog 89 #[.bool b, .int .i64 e] w fun r w' => r = .returned (.int .i64 (whenV b e)) ∧ w = w' := when_any b e w
def firstV (l : List Int) : Int := firstE l
theorem firstV_any (a : Option Addr) (cap : Nat) (l : List Int) (w : World) (h : Ints w a cap l) :
    Calls Tryz.prog 54 #[.slice a l.length cap] w fun r w' => r = .returned (.int .i64 (firstV l)) ∧ w = w' := first_any a cap l w h
theorem bytes_empty (x : ByteArray) : x.toList.isEmpty = decide (x = ⟨#[]⟩) := by
  rw [Bool.eq_iff_iff, List.isEmpty_iff, decide_eq_true_iff, ByteArray.toList_eq]
  constructor
  · intro h
    have := Array.toList_eq_nil_iff.1 h
    cases x; simp_all
  · rintro rfl; rfl

theorem pass_eql (f t : Int) (y : ByteArray) (w : World) : (binOp .eql 78 (.agg #[.int .i64 f, .int .i64 t, .string y]) (.agg #[.int .i64 f, .int .i64 f, .string y])).run Tryz.prog w = .ok (.bool (t == f)) w := by
  by_cases h : t = f
  · subst h; simp [go_sem]
  · have : (t == f) = false := by simpa using h
    rw [this]; simp [go_sem, h]
attribute [local go_sem ↓] pass_eql

theorem distanceW_any (p : PassV) (w : World) :
    Calls Tryz.prog 136 #[.agg #[.int .i64 p.f, .int .i64 p.t, .string p.way]] w fun r w' => ∃ d : Int, r = .returned (.int .i64 d) ∧ Below w.heap.size w w' := by
  go_enter Tryz.func136, Tryz.ntmps136
  go_wp2
  all_goals
    go_ret
    exact ⟨_, rfl, bal (Below.refl _ _) _⟩

/-- what is left of a text of ways. -/
def trimOU (s : ByteArray) : ByteArray := ⟨(Lib.trimS s.data.toList [111, 117]).toArray⟩
theorem trimOU_any (s : ByteArray) (w : World) (hs : s.size ≤ 9223372036854775807) :
    Calls Tryz.prog 135 #[.string s, .string ⟨#[111, 117]⟩] w fun e w' => e = .returned (.string (trimOU s)) ∧ Below w.heap.size w w' :=
  Any.strings_Trim_laid Tryz.lays160 (by kernel_rfl) s ⟨#[111, 117]⟩ w hs (by decide) (ascii_of_all (by decide))

/-- the error of a pass. -/
def passE (n : Int) (p : PassV) : Int :=
  if p.f < 1 ∨ p.t < 1 ∨ n < p.f ∨ n < p.t then 3 else if p.t = p.f then 9 else if (p.way.size : Int) ≠ distP p then 2 else if trimOU p.way ≠ ⟨#[]⟩ then 1 else 0
theorem passE_first (n : Int) (p : PassV) (h1 : 1 ≤ p.f) (h2 : 1 ≤ p.t) (h3 : p.f ≤ n) (h4 : p.t ≤ n) :
    passE n p = firstV [0, whenV (p.t == p.f) 9, whenV ((p.way.size : Int) != distP p) 2, whenV (!(trimOU p.way).toList.isEmpty) 1] := by
  unfold passE firstV whenV
  rw [if_neg (by omega), bytes_empty]
  simp only [firstE_cons, firstE_nil]
  by_cases a1 : p.t = p.f <;> by_cases a2 : (p.way.size : Int) = distP p <;> by_cases a3 : trimOU p.way = ⟨#[]⟩ <;> simp [a1, a2, a3]
def passesGo (n : Int) : List PassV → Int
  | [] => 0
  | p :: r => if passE n p ≠ 0 then passE n p else passesGo n r
def passesE (n : Int) (l : List PassV) : Int := if n < 2 ∨ 12 < n then 3 else if 1000 < l.length then 5 else passesGo n l

theorem passesGo_step (n : Int) (l : List PassV) (k : Nat) (h : k < l.length) : passesGo n (l.drop k) = if passE n (atD pass0 l k) ≠ 0 then passE n (atD pass0 l k) else passesGo n (l.drop (k + 1)) := by
  have e2 : atD pass0 l k = l[k] := by simp [atD, h]
  rw [List.drop_eq_getElem_cons h, passesGo, e2]

theorem held_below {H H0 : Nat} {p : PassV} {w0 W W' : World} (h : W.cell? ⟨H, 0, none⟩ = some (.int .i64 p.f) ∧ W.cell? ⟨H, 1, none⟩ = some (.int .i64 p.t) ∧ W.cell? ⟨H, 2, none⟩ = some (.string p.way) ∧ Below H0 w0 W ∧ H < H0 ∧ H0 ≤ W.heap.size) (hb : Below W.heap.size W W') :
    W'.cell? ⟨H, 0, none⟩ = some (.int .i64 p.f) ∧ W'.cell? ⟨H, 1, none⟩ = some (.int .i64 p.t) ∧ W'.cell? ⟨H, 2, none⟩ = some (.string p.way) ∧ Below H0 w0 W' ∧ H < H0 ∧ H0 ≤ W'.heap.size := by
  obtain ⟨h1, h2, h3, h4, h5, h6⟩ := h
  have hz := hb.size
  exact ⟨(hb.cell (by show H < _; omega)).trans h1, (hb.cell (by show H < _; omega)).trans h2, (hb.cell (by show H < _; omega)).trans h3, h4.trans (hb.mono h6), h5, by omega⟩
theorem held_alloc {H H0 : Nat} {p : PassV} {w0 W : World} (h : W.cell? ⟨H, 0, none⟩ = some (.int .i64 p.f) ∧ W.cell? ⟨H, 1, none⟩ = some (.int .i64 p.t) ∧ W.cell? ⟨H, 2, none⟩ = some (.string p.way) ∧ Below H0 w0 W ∧ H < H0 ∧ H0 ≤ W.heap.size) (o : Obj) :
    (W.alloc o).cell? ⟨H, 0, none⟩ = some (.int .i64 p.f) ∧ (W.alloc o).cell? ⟨H, 1, none⟩ = some (.int .i64 p.t) ∧ (W.alloc o).cell? ⟨H, 2, none⟩ = some (.string p.way) ∧ Below H0 w0 (W.alloc o) ∧ H < H0 ∧ H0 ≤ (W.alloc o).heap.size :=
  held_below h ((Below.refl _ _).alloc (Nat.le_refl _) o)
theorem held_drew {H H0 : Nat} {p : PassV} {w0 W : World} (h : W.cell? ⟨H, 0, none⟩ = some (.int .i64 p.f) ∧ W.cell? ⟨H, 1, none⟩ = some (.int .i64 p.t) ∧ W.cell? ⟨H, 2, none⟩ = some (.string p.way) ∧ Below H0 w0 W ∧ H < H0 ∧ H0 ≤ W.heap.size) :
    W.drew.cell? ⟨H, 0, none⟩ = some (.int .i64 p.f) ∧ W.drew.cell? ⟨H, 1, none⟩ = some (.int .i64 p.t) ∧ W.drew.cell? ⟨H, 2, none⟩ = some (.string p.way) ∧ Below H0 w0 W.drew ∧ H < H0 ∧ H0 ≤ W.drew.heap.size :=
  held_below h (Below.refl _ _).drew
theorem held_start {H : Nat} {p : PassV} {wr w2 : World} {o : Obj} (hH : wr.heap.size = H) (ho : o = .cells #[.int .i64 p.f, .int .i64 p.t, .string p.way] 78) (hb : Below (wr.alloc o).heap.size (wr.alloc o) w2) :
    w2.cell? ⟨H, 0, none⟩ = some (.int .i64 p.f) ∧ w2.cell? ⟨H, 1, none⟩ = some (.int .i64 p.t) ∧ w2.cell? ⟨H, 2, none⟩ = some (.string p.way) ∧ Below (H + 1) w2 w2 ∧ H < H + 1 ∧ H + 1 ≤ w2.heap.size := by
  subst hH; subst ho
  have hz := hb.size
  simp at hz
  refine ⟨(hb.cell (by simp)).trans ?_, (hb.cell (by simp)).trans ?_, (hb.cell (by simp)).trans ?_, Below.refl _ _, by omega, hz⟩ <;> simp [go_sem]

theorem held_end {H H0 : Nat} {p : PassV} {w wr w2 W : World} {o : Obj} (hH : wr.heap.size = H) (hbr : Below w.heap.size w wr) (hb2 : Below (wr.alloc o).heap.size (wr.alloc o) w2) (h : W.cell? ⟨H, 0, none⟩ = some (.int .i64 p.f) ∧ W.cell? ⟨H, 1, none⟩ = some (.int .i64 p.t) ∧ W.cell? ⟨H, 2, none⟩ = some (.string p.way) ∧ Below H0 w2 W ∧ H < H0 ∧ H0 ≤ W.heap.size) : Below w.heap.size w W := by
  have hz := hbr.size
  exact (bnext (bal hbr o) hb2).trans (h.2.2.2.1.mono (by omega))

theorem CheckPasses_any (n : Int) (a : Option Addr) (cap : Nat) (l : List PassV) (w : World) (hS : PassesR w a cap l) (hl : l.length ≤ 1048576) (hw : ∀ p ∈ l, p.way.size ≤ 1048576) :
    Calls Tryz.prog 90 #[.int .i64 n, .slice a l.length cap] w fun r w' => r = .returned (.int .i64 (passesE n l)) ∧ Below w.heap.size w w' := by
  have hcap := hS.le
  have hm := hS.max
  by_cases h1 : n < 2
  · have e : passesE n l = 3 := by unfold passesE; rw [if_pos (.inl h1)]
    rw [e]
    clear e
    go_enter Tryz.func90, Tryz.ntmps90
    go_wp2_with (first | (go_at_call 89; refine (when_any _ _ _).mono ?_; rintro e w' ⟨rfl, rfl⟩) | (go_at_call 54; refine (first_any _ _ [_, _] _ (reps_newN cIntS [_, _] 2 rfl (by decide) _ _ (by simp) rfl)).mono ?_; rintro e w' ⟨rfl, rfl⟩))
    all_goals
      go_ret
      exact ⟨rfl, bal (Below.refl _ _) _⟩
  by_cases h2 : 12 < n
  · have e : passesE n l = 3 := by unfold passesE; rw [if_pos (.inr h2)]
    rw [e]
    clear e
    go_enter Tryz.func90, Tryz.ntmps90
    go_wp2_with (first | (go_at_call 89; refine (when_any _ _ _).mono ?_; rintro e w' ⟨rfl, rfl⟩) | (go_at_call 54; refine (first_any _ _ [_, _] _ (reps_newN cIntS [_, _] 2 rfl (by decide) _ _ (by simp) rfl)).mono ?_; rintro e w' ⟨rfl, rfl⟩))
    all_goals
      go_ret
      exact ⟨rfl, bal (Below.refl _ _) _⟩
  by_cases h3 : 1000 < l.length
  · have e : passesE n l = 5 := by unfold passesE; rw [if_neg (by omega), if_pos h3]
    rw [e]
    clear e
    go_enter Tryz.func90, Tryz.ntmps90
    go_wp2_with (first | (go_at_call 89; refine (when_any _ _ _).mono ?_; rintro e w' ⟨rfl, rfl⟩) | (go_at_call 54; refine (first_any _ _ [_, _] _ (reps_newN cIntS [_, _] 2 rfl (by decide) _ _ (by simp) rfl)).mono ?_; rintro e w' ⟨rfl, rfl⟩))
    all_goals
      go_ret
      exact ⟨rfl, bal (Below.refl _ _) _⟩
  have e : passesE n l = passesGo n l := by unfold passesE; rw [if_neg (by omega), if_neg h3]
  have HE := hid e; clear e
  have HW := hid hw; clear hw
  go_enter Tryz.func90, Tryz.ntmps90
  go_wp2_with (first | (go_at_call 89; refine (when_any _ _ _).mono ?_; rintro e w' ⟨rfl, rfl⟩) | (go_at_call 54; refine (first_any _ _ [_, _] _ (reps_newN cIntS [_, _] 2 rfl (by decide) _ _ (by simp) rfl)).mono ?_; rintro e w' ⟨rfl, rfl⟩))
  go_loopw [7, 8, 9, 10, 29] (fun _ _ _ _ i wr => ∃ k : Nat, k ≤ l.length ∧ i = .int .i64 k ∧ passesGo n (l.drop k) = passesE n l ∧ Below w.heap.size w wr) (fun _ _ _ _ i _ => l.length - (intOf i).toNat)
  case atStart => exact ⟨0, by omega, rfl, HE.out.symm, bal (Below.refl _ _) _⟩
  case round =>
    obtain ⟨k, hk, rfl, hf, hbr⟩ := hrel
    have hSr := hS.below hbr
    by_cases hlt : k < l.length
    · have hs := passesGo_step n l k hlt
      rw [hf] at hs
      have hwy := HW.out (atD pass0 l k) (by simp [atD, hlt])
      have HS := hid hs; clear hs hf
      obtain ⟨q, hq⟩ : ∃ q, ((atD pass0 l k).t == (atD pass0 l k).f) = q := ⟨_, rfl⟩
      by_cases b1 : min (atD pass0 l k).f (atD pass0 l k).t < 1
      · have hE : passE n (atD pass0 l k) = 3 := by unfold passE; rw [if_pos (by omega)]
        have HE2 := hid hE; clear hE
        have hF : ∀ x y z, firstV [3, x, y, z] = 3 := fun _ _ _ => rfl
        go_wp2_with (first | (with_reducible refine wpList_idxS _ pass0 E_passes F_pass cPass1 (by with_unfolding_all rfl) (by with_unfolding_all rfl) (hSr) (by first | omega | (simp; done)) (by first | omega | (simp; done)) (fun _ => by with_unfolding_all rfl) (fun _ => ?_)) | (go_at_call 135; refine (trimOU_any _ _ (by omega)).mono ?_; rintro e w2 ⟨rfl, hb2⟩))
        have hst := held_start (p := atD pass0 l k) (wr := wr) rfl rfl hb2
        go_region_held3 (fun W => W.cell? ⟨wr.heap.size, 0, none⟩ = some (.int .i64 (atD pass0 l k).f) ∧ W.cell? ⟨wr.heap.size, 1, none⟩ = some (.int .i64 (atD pass0 l k).t) ∧ W.cell? ⟨wr.heap.size, 2, none⟩ = some (.string (atD pass0 l k).way) ∧ Below (wr.heap.size + 1) w2 W ∧ wr.heap.size < wr.heap.size + 1 ∧ wr.heap.size + 1 ≤ W.heap.size)
            (first | assumption | exact held_alloc ‹_› _ | exact held_drew ‹_› | exact held_below ‹_› ‹_›)
            (first | (go_at_call 89; refine (whenV_any _ _ _).mono ?_; rintro e w' ⟨rfl, rfl⟩) | (go_at_call 136; refine (distanceW_any (atD pass0 l k) _).mono ?_; rintro e w5 ⟨d5, rfl, hb5⟩) | (go_at_call 54; refine (firstV_any _ _ [_, _, _, _] _ (reps_newN cIntS [_, _, _, _] 4 rfl (by decide) _ _ (by simp) rfl)).mono ?_; rintro e w' ⟨rfl, rfl⟩))
        clear hst
        have hb9 := held_end (p := atD pass0 l k) rfl hbr hb2 ‹_›
        go_wp2_with fail
        go_ret
        exact ⟨by have := HS.out; rw [HE2.out, if_pos (by omega)] at this; rw [this]; rfl, hb9⟩
      by_cases b2 : n < max (atD pass0 l k).f (atD pass0 l k).t
      · have hE : passE n (atD pass0 l k) = 3 := by unfold passE; rw [if_pos (by omega)]
        have HE2 := hid hE; clear hE
        have hF : ∀ x y z, firstV [3, x, y, z] = 3 := fun _ _ _ => rfl
        go_wp2_with (first | (with_reducible refine wpList_idxS _ pass0 E_passes F_pass cPass1 (by with_unfolding_all rfl) (by with_unfolding_all rfl) (hSr) (by first | omega | (simp; done)) (by first | omega | (simp; done)) (fun _ => by with_unfolding_all rfl) (fun _ => ?_)) | (go_at_call 135; refine (trimOU_any _ _ (by omega)).mono ?_; rintro e w2 ⟨rfl, hb2⟩))
        have hst := held_start (p := atD pass0 l k) (wr := wr) rfl rfl hb2
        go_region_held3 (fun W => W.cell? ⟨wr.heap.size, 0, none⟩ = some (.int .i64 (atD pass0 l k).f) ∧ W.cell? ⟨wr.heap.size, 1, none⟩ = some (.int .i64 (atD pass0 l k).t) ∧ W.cell? ⟨wr.heap.size, 2, none⟩ = some (.string (atD pass0 l k).way) ∧ Below (wr.heap.size + 1) w2 W ∧ wr.heap.size < wr.heap.size + 1 ∧ wr.heap.size + 1 ≤ W.heap.size)
            (first | assumption | exact held_alloc ‹_› _ | exact held_drew ‹_› | exact held_below ‹_› ‹_›)
            (first | (go_at_call 89; refine (whenV_any _ _ _).mono ?_; rintro e w' ⟨rfl, rfl⟩) | (go_at_call 136; refine (distanceW_any (atD pass0 l k) _).mono ?_; rintro e w5 ⟨d5, rfl, hb5⟩) | (go_at_call 54; refine (firstV_any _ _ [_, _, _, _] _ (reps_newN cIntS [_, _, _, _] 4 rfl (by decide) _ _ (by simp) rfl)).mono ?_; rintro e w' ⟨rfl, rfl⟩))
        clear hst
        have hb9 := held_end (p := atD pass0 l k) rfl hbr hb2 ‹_›
        go_wp2_with fail
        go_ret
        exact ⟨by have := HS.out; rw [HE2.out, if_pos (by omega)] at this; rw [this]; rfl, hb9⟩
      have hP := passE_first n (atD pass0 l k) (by omega) (by omega) (by omega) (by omega)
      rw [hq] at hP
      by_cases hE : passE n (atD pass0 l k) = 0
      · have HE2 := hid hE
        rw [hE] at hP
        have hF := hP.symm
        clear hP hE
        go_wp2_with (first | (with_reducible refine wpList_idxS _ pass0 E_passes F_pass cPass1 (by with_unfolding_all rfl) (by with_unfolding_all rfl) (hSr) (by first | omega | (simp; done)) (by first | omega | (simp; done)) (fun _ => by with_unfolding_all rfl) (fun _ => ?_)) | (go_at_call 135; refine (trimOU_any _ _ (by omega)).mono ?_; rintro e w2 ⟨rfl, hb2⟩))
        have hst := held_start (p := atD pass0 l k) (wr := wr) rfl rfl hb2
        go_region_held3 (fun W => W.cell? ⟨wr.heap.size, 0, none⟩ = some (.int .i64 (atD pass0 l k).f) ∧ W.cell? ⟨wr.heap.size, 1, none⟩ = some (.int .i64 (atD pass0 l k).t) ∧ W.cell? ⟨wr.heap.size, 2, none⟩ = some (.string (atD pass0 l k).way) ∧ Below (wr.heap.size + 1) w2 W ∧ wr.heap.size < wr.heap.size + 1 ∧ wr.heap.size + 1 ≤ W.heap.size)
            (first | assumption | exact held_alloc ‹_› _ | exact held_drew ‹_› | exact held_below ‹_› ‹_›)
            (first | (go_at_call 89; refine (whenV_any _ _ _).mono ?_; rintro e w' ⟨rfl, rfl⟩) | (go_at_call 136; refine (distance_any (atD pass0 l k) _ (by omega) (by omega) (by omega) (by omega)).mono ?_; rintro e w5 ⟨rfl, hb5⟩) | (go_at_call 54; refine (firstV_any _ _ [_, _, _, _] _ (reps_newN cIntS [_, _, _, _] 4 rfl (by decide) _ _ (by simp) rfl)).mono ?_; rintro e w' ⟨rfl, rfl⟩))
        clear hst
        have hb9 := held_end (p := atD pass0 l k) rfl hbr hb2 ‹_›
        go_wp2_with fail
        exact ⟨⟨k + 1, by omega, by go_num, by have := HS.out; rw [HE2.out] at this; exact this.symm, hb9⟩, by simp [intOf]; omega⟩
      · obtain ⟨E, hEd⟩ : ∃ E, E = passE n (atD pass0 l k) := ⟨_, rfl⟩
        rw [← hEd] at hP hE
        have hF := hP.symm
        have hne : (E != 0) = true := by simpa using hE
        have HE2 := hid hEd.symm
        clear hP hEd
        go_wp2_with (first | (with_reducible refine wpList_idxS _ pass0 E_passes F_pass cPass1 (by with_unfolding_all rfl) (by with_unfolding_all rfl) (hSr) (by first | omega | (simp; done)) (by first | omega | (simp; done)) (fun _ => by with_unfolding_all rfl) (fun _ => ?_)) | (go_at_call 135; refine (trimOU_any _ _ (by omega)).mono ?_; rintro e w2 ⟨rfl, hb2⟩))
        have hst := held_start (p := atD pass0 l k) (wr := wr) rfl rfl hb2
        go_region_held3 (fun W => W.cell? ⟨wr.heap.size, 0, none⟩ = some (.int .i64 (atD pass0 l k).f) ∧ W.cell? ⟨wr.heap.size, 1, none⟩ = some (.int .i64 (atD pass0 l k).t) ∧ W.cell? ⟨wr.heap.size, 2, none⟩ = some (.string (atD pass0 l k).way) ∧ Below (wr.heap.size + 1) w2 W ∧ wr.heap.size < wr.heap.size + 1 ∧ wr.heap.size + 1 ≤ W.heap.size)
            (first | assumption | exact held_alloc ‹_› _ | exact held_drew ‹_› | exact held_below ‹_› ‹_›)
            (first | (go_at_call 89; refine (whenV_any _ _ _).mono ?_; rintro e w' ⟨rfl, rfl⟩) | (go_at_call 136; refine (distance_any (atD pass0 l k) _ (by omega) (by omega) (by omega) (by omega)).mono ?_; rintro e w5 ⟨rfl, hb5⟩) | (go_at_call 54; refine (firstV_any _ _ [_, _, _, _] _ (reps_newN cIntS [_, _, _, _] 4 rfl (by decide) _ _ (by simp) rfl)).mono ?_; rintro e w' ⟨rfl, rfl⟩))
        clear hst
        have hb9 := held_end (p := atD pass0 l k) rfl hbr hb2 ‹_›
        go_wp2_with fail
        go_ret
        exact ⟨by have := HS.out; rw [HE2.out, if_pos (by omega)] at this; rw [this]; rfl, hb9⟩
    · have : k = l.length := by omega
      subst this
      rw [List.drop_length] at hf
      have HF := hid hf; clear hf
      go_wp2_with fail
      go_ret
      exact ⟨by rw [← HF.out]; rfl, hbr⟩
end Go.Proofs.YtmomeggnegcheaaGreatDoor

/- Contract: Word. Conditions: slices readable, sizes as stated. -/
namespace Go.Proofs.YtmomeggnegcheaaGreatDoor
open Go.RowKit
set_option maxHeartbeats 1000000
set_option maxRecDepth 100000

theorem dropWhile_nil_all {α : Type} (q : α → Bool) : ∀ l : List α, l.dropWhile q = [] → ∀ x ∈ l, q x = true
  | [], _ => by simp
  | x :: r, h => by
    rw [List.dropWhile_cons] at h
    split at h
    · next hx =>
      intro y hy
      rcases List.mem_cons.1 hy with rfl | hy
      · exact hx
      · exact dropWhile_nil_all q r h y hy
    · cases h
theorem trimS_nil {l cs : List UInt8} (h : Lib.trimS l cs = []) : ∀ x ∈ l, cs.contains x = true := by
  unfold Lib.trimS Lib.trimLeftS at h
  have h1 := dropWhile_nil_all _ _ h
  unfold Lib.trimRightS at h1 h
  generalize hd : l.reverse.dropWhile (cs.contains ·) = d at *
  match d, hd with
  | [], hd => intro x hx; exact dropWhile_nil_all _ _ hd x (by simpa using hx)
  | y :: r, hd =>
    exfalso
    have hy : cs.contains y = true := h1 y (by simp)
    have := List.head?_dropWhile_not (cs.contains ·) l.reverse
    rw [hd] at this
    simp at this
    simp at hy
    exact this hy
theorem trimOU_nil {s : ByteArray} (h : trimOU s = ⟨#[]⟩) : ∀ k, k < s.size → byteAt s k = 111 ∨ byteAt s k = 117 := by
  intro k hk
  have h1 : Lib.trimS s.data.toList [111, 117] = [] := by
    unfold trimOU at h
    injection h with h
    simpa using h
  have h2 := trimS_nil h1 (s[k]'hk) (by rw [ByteArray.getElem_eq_getElem_data]; simp)
  rw [byteAt_in hk]
  simp at h2
  rcases h2 with h2 | h2 <;> rw [h2] <;> simp

theorem passesGo_zero {n : Int} : ∀ {l : List PassV}, passesGo n l = 0 → ∀ p ∈ l, passE n p = 0
  | [], _ => by simp
  | p :: r, h => by
    rw [passesGo] at h
    split at h
    · next h1 => exact absurd h h1
    · next h1 =>
      intro q hq
      rcases List.mem_cons.1 hq with rfl | hq
      · simpa using h1
      · exact passesGo_zero h q hq
theorem passE_zero {n : Int} {p : PassV} (h : passE n p = 0) : 1 ≤ p.f ∧ p.f ≤ n ∧ 1 ≤ p.t ∧ p.t ≤ n ∧ p.t ≠ p.f ∧ (p.way.size : Int) = distP p ∧ ∀ k, k < p.way.size → byteAt p.way k = 111 ∨ byteAt p.way k = 117 := by
  unfold passE at h
  split at h
  · omega
  · split at h
    · omega
    · split at h
      · omega
      · split at h
        · omega
        · next h1 h2 h3 h4 => exact ⟨by omega, by omega, by omega, by omega, h2, by omega, trimOU_nil (by simpa using h4)⟩
theorem passesE_zero {n : Int} {l : List PassV} (h : passesE n l = 0) : 2 ≤ n ∧ n ≤ 12 ∧ l.length ≤ 1000 ∧ ∀ p ∈ l, passE n p = 0 := by
  unfold passesE at h
  split at h
  · omega
  · split at h
    · omega
    · exact ⟨by omega, by omega, by omega, passesGo_zero h⟩
theorem passE_small {n : Int} {p : PassV} (hn : n ≤ 12) (h : passE n p = 0) : p.f ≤ 12 ∧ p.t ≤ 12 ∧ p.way.size ≤ 11 ∧ ∀ k, k < p.way.size → byteAt p.way k < 128 := by
  obtain ⟨h1, h2, h3, h4, h5, h6, h7⟩ := passE_zero h
  refine ⟨by omega, by omega, ?_, fun k hk => by have := h7 k hk; omega⟩
  unfold distP at h6
  split at h6 <;> omega

def lettersAll (l : List PassV) : List Int := l.flatMap lettersL
theorem lettersL_len (p : PassV) : (lettersL p).length = p.way.size := lettersK_len p _
theorem lettersAll_step (l : List PassV) (k : Nat) (h : k < l.length) : lettersAll (l.take (k + 1)) = lettersAll (l.take k) ++ lettersL (atD pass0 l k) := by
  have e2 : atD pass0 l k = l[k] := by simp [atD, h]
  unfold lettersAll
  rw [List.take_succ_eq_append_getElem h, e2, List.flatMap_append, List.flatMap_singleton]
def wordErr (n : Int) (l : List PassV) : Int := if passesE n l ≠ 0 then passesE n l else if 200 < (lettersAll l).length then 5 else 0
def wordL (n : Int) (l : List PassV) : List Int := if wordErr n l = 0 then lettersAll l else []

theorem Word_any (n : Int) (a : Option Addr) (cap : Nat) (l : List PassV) (w : World) (hS : PassesR w a cap l) (hl : l.length ≤ 1048576) (hw : ∀ p ∈ l, p.way.size ≤ 1048576) :
    Calls Tryz.prog 41 #[.int .i64 n, .slice a l.length cap] w fun r w' => RetLE w (wordL n l) (wordErr n l) r w' := by
  have hcap := hS.le
  have hm := hS.max
  have hc := CheckPasses_any n a cap l w hS hl hw
  by_cases h : passesE n l = 0
  · rw [h] at hc
    obtain ⟨hn1, hn2, hl2, hall⟩ := passesE_zero h
    have eE : wordErr n l = if 200 < (lettersAll l).length then 5 else 0 := by simp [wordErr, h]
    have HE := hid eE; have HC := hid hc; have HA := hid hall
    clear eE hc hall h hw
    go_enter Tryz.func41, Tryz.ntmps41
    go_wp2_with fail
    refine HC.out.mono ?_
    rintro e w1 ⟨rfl, hb1⟩
    go_wp2_with fail
    go_loopw [7, 9, 18] (fun v _ i wr => ∃ k : Nat, k ≤ l.length ∧ i = .int .i64 k ∧ OwnI w.heap.size wr v (lettersAll (l.take k)) ∧ (lettersAll (l.take k)).length ≤ 11 * k ∧ Below w.heap.size w wr) (fun _ _ i _ => l.length - (intOf i).toNat)
    case atStart => exact ⟨0, by omega, rfl, own_nil cIntS, by simp [lettersAll], hb1⟩
    case round =>
      obtain ⟨k, hk, rfl, hO, hlen, hbr⟩ := hrel
      have hSr := hS.below hbr
      by_cases hlt : k < l.length
      · have hs := lettersAll_step l k hlt
        have HS := hid hs; clear hs
        obtain ⟨z1, z2, z3, z4⟩ := passE_small hn2 (HA.out (atD pass0 l k) (by simp [atD, hlt]))
        obtain ⟨y1, y2, y3, y4, _, _, _⟩ := passE_zero (HA.out (atD pass0 l k) (by simp [atD, hlt]))
        have hlt3 := fun w => letters_any (atD pass0 l k) w y1 z1 y3 z2 (by omega) z4
        have hle : (lettersL (atD pass0 l k)).length ≤ 11 := by rw [lettersL_len]; exact z3
        have HLT := hid hlt3; clear hlt3 z4
        have hbs := hbr.size
        go_wp2_with (with_reducible refine wpList_idxS _ pass0 E_passes F_pass cPass1 (by with_unfolding_all rfl) (by with_unfolding_all rfl) (hSr) (by first | omega | (simp; done)) (by first | omega | (simp; done)) (fun _ => by with_unfolding_all rfl) (fun _ => ?_))
        refine (HLT.out _).mono ?_
        rintro e w2 ⟨v2, rfl, ho2, hb2⟩
        obtain ⟨a2, cap2, rfl, hr2, _, _⟩ := ho2.reps
        have hO2 := ((hO.alloc (.cells #[.int .i64 (atD pass0 l k).f, .int .i64 (atD pass0 l k).t, .string (atD pass0 l k).way] 78)).below hb2)
        have hbr2 := bnext (bal hbr (.cells #[.int .i64 (atD pass0 l k).f, .int .i64 (atD pass0 l k).t, .string (atD pass0 l k).way] 78)) hb2
        have hbs2 := hbr2.size
        go_wp2_with ((with_reducible refine wpList_app (B := w.heap.size) (l := lettersAll (l.take k)) (ys := lettersL (atD pass0 l k)) E_ints (by with_unfolding_all rfl) (by with_unfolding_all rfl) hO2 hr2 cIntO (by omega) (by omega) (by omega) ?_); intro v3 w3 ho3 hg3 _)
        refine ⟨⟨k + 1, by omega, by go_num, by rw [HS.out]; exact ho3, by rw [HS.out, List.length_append]; omega, below_own hbr2 hg3 hO2 (Nat.le_refl _)⟩, by simp [intOf]; omega⟩
      · have : k = l.length := by omega
        subst this
        rw [List.take_length] at hO hlen
        obtain ⟨ao, capo, rfl, hro, _, _⟩ := hO.reps
        by_cases hlong : 200 < (lettersAll l).length
        · have e1 : wordErr n l = 5 := by rw [HE.out, if_pos hlong]
          have e2 : wordL n l = [] := by rw [wordL, e1]; rfl
          have E1 := hid e1; have E2 := hid e2
          clear e1 e2
          go_wp2_with fail
          go_ret2
          rw [E1.out, E2.out]
          exact RetLE.none rfl hbr
        · have e1 : wordErr n l = 0 := by rw [HE.out, if_neg hlong]
          have e2 : wordL n l = lettersAll l := by rw [wordL, e1]; rfl
          have E1 := hid e1; have E2 := hid e2
          clear e1 e2
          go_wp2_with fail
          go_ret2
          rw [E1.out, E2.out]
          exact RetLE.own _ rfl hO (Nat.le_refl _) hbr
  · have e1 : wordErr n l = passesE n l := by simp [wordErr, h]
    have e2 : wordL n l = [] := by rw [wordL, e1, if_neg h]
    rw [e1, e2]
    obtain ⟨q, hq⟩ : ∃ q, q = passesE n l := ⟨_, rfl⟩
    rw [← hq] at hc h ⊢
    have hne : (q != 0) = true := by simpa using h
    have HC := hid hc
    clear hc hq e1 e2 hw
    go_enter Tryz.func41, Tryz.ntmps41
    go_wp2_with fail
    refine HC.out.mono ?_
    rintro e w1 ⟨rfl, hb1⟩
    go_wp2_with fail
    go_ret2
    exact RetLE.none rfl hb1
end Go.Proofs.YtmomeggnegcheaaGreatDoor
