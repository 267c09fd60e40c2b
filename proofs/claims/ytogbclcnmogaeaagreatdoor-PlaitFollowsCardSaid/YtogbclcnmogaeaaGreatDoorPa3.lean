/- Contract: CheckPasses. Conditions: slices readable, sizes as stated. -/
import Derived.Test.YtogbclcnmogaeaaGreatDoorLib1
import Derived.Test.YtogbclcnmogaeaaGreatDoorPaA
import Derived.Test.YtogbclcnmogaeaaGreatDoorQA
import Derived.Deep.RegionHeld3
set_option linter.all false
namespace Go.Proofs.YtogbclcnmogaeaaGreatDoor
open Go.RowKit
set_option maxHeartbeats 1000000
set_option maxRecDepth 100000

def whenV (b : Bool) (e : Int) : Int := if b then e else 0
@[go_sem] theorem whenV_true (e : Int) : whenV true e = e := rfl
@[go_sem] theorem whenV_false (e : Int) : whenV false e = 0 := rfl
theorem whenV_any (b : Bool) (e : Int) (w : World) :
    Calls Tryz.prog 102 #[.bool b, .int .i64 e] w fun r w' => r = .returned (.int .i64 (whenV b e)) ∧ w = w' := when_any b e w
def firstV (l : List Int) : Int := firstE l
theorem firstV_any (a : Option Addr) (cap : Nat) (l : List Int) (w : World) (h : Ints w a cap l) :
    Calls Tryz.prog 99 #[.slice a l.length cap] w fun r w' => r = .returned (.int .i64 (firstV l)) ∧ w = w' := first_any a cap l w h
theorem bytes_empty (x : ByteArray) : x.toList.isEmpty = decide (x = ⟨#[]⟩) := by
  rw [Bool.eq_iff_iff, List.isEmpty_iff, decide_eq_true_iff, ByteArray.toList_eq]
  constructor
  · intro h
    have := Array.toList_eq_nil_iff.1 h
    cases x; simp_all
  · rintro rfl; rfl

theorem pass_eql (f t : Int) (y : ByteArray) (w : World) : (binOp .eql 116 (.agg #[.int .i64 f, .int .i64 t, .string y]) (.agg #[.int .i64 f, .int .i64 f, .string y])).run Tryz.prog w = .ok (.bool (t == f)) w := by
  by_cases h : t = f
  · subst h; simp [go_sem]
  · have : (t == f) = false := by simpa using h
    rw [this]; simp [go_sem, h]
attribute [local go_sem ↓] pass_eql

theorem distanceW_any (p : PassV) (w : World) :
    Calls Tryz.prog 143 #[.agg #[.int .i64 p.f, .int .i64 p.t, .string p.way]] w fun r w' => ∃ d : Int, r = .returned (.int .i64 d) ∧ Below w.heap.size w w' := by
  go_enter Tryz.func143, Tryz.ntmps143
  go_wp2
  all_goals
    go_ret
    exact ⟨_, rfl, bal (Below.refl _ _) _⟩

/-- what is left of a text of ways. -/
def trimOU (s : ByteArray) : ByteArray := ⟨(Lib.trimS s.data.toList [111, 117]).toArray⟩
theorem trimOU_any (s : ByteArray) (w : World) (hs : s.size ≤ 9223372036854775807) :
    Calls Tryz.prog 142 #[.string s, .string ⟨#[111, 117]⟩] w fun e w' => e = .returned (.string (trimOU s)) ∧ Below w.heap.size w w' :=
  Any.strings_Trim_laid Tryz.lays160 (by kernel_rfl) s ⟨#[111, 117]⟩ w hs (by decide) (ascii_of_all (by decide))

/-- the error of a pass. -/
def passE (n : Int) (p : PassV) : Int :=
  if p.f < 1 ∨ p.t < 1 ∨ n < p.f ∨ n < p.t then 3 else if p.t = p.f then 9 else if (p.way.size : Int) ≠ distP p then 2 else if trimOU p.way ≠ ⟨#[]⟩ then 1 else 0
theorem passE_first (n : Int) (p : PassV) (h1 : 1 ≤ p.f) (h2 : 1 ≤ p.t) (h3 : p.f ≤ n) (h4 : p.t ≤ n) :
    passE n p = firstV [0, whenV (p.t == p.f) 9, whenV ((p.way.size : Int) != distP p) 2, whenV (!(trimOU p.way).toList.isEmpty) 1] := by
  unfold passE firstV whenV
  rw [if_neg (by omega), bytes_empty]
  simp only [firstE_cons, firstE_nil]
  by_cases a1 : p.t = p.f <;> by_cases a2 : (p.way.size : Int) = distP p <;> by_cases a3 : trimOU p.way = ⟨#[]⟩ <;> simp [a1, a2, a3]
def passesGo (n : Int) : List PassV → Int
  | [] => 0
  | p :: r => if passE n p ≠ 0 then passE n p else passesGo n r
def passesE (n : Int) (l : List PassV) : Int := if n < 2 ∨ 12 < n then 3 else if 1000 < l.length then 5 else passesGo n l

theorem passesGo_step (n : Int) (l : List PassV) (k : Nat) (h : k < l.length) : passesGo n (l.drop k) = if passE n (atD pass0 l k) ≠ 0 then passE n (atD pass0 l k) else passesGo n (l.drop (k + 1)) := by
  have e2 : atD pass0 l k = l[k] := by simp [atD, h]
  rw [List.drop_eq_getElem_cons h, passesGo, e2]

theorem held_below {H H0 : Nat} {p : PassV} {w0 W W' : World} (h : W.cell? ⟨H, 0, none⟩ = some (.int .i64 p.f) ∧ W.cell? ⟨H, 1, none⟩ = some (.int .i64 p.t) ∧ W.cell? ⟨H, 2, none⟩ = some (.string p.way) ∧ Below H0 w0 W ∧ H < H0 ∧ H0 ≤ W.heap.size) (hb : Below W.heap.size W W') :
    W'.cell? ⟨H, 0, none⟩ = some (.int .i64 p.f) ∧ W'.cell? ⟨H, 1, none⟩ = some (.int .i64 p.t) ∧ W'.cell? ⟨H, 2, none⟩ = some (.string p.way) ∧ Below H0 w0 W' ∧ H < H0 ∧ H0 ≤ W'.heap.size := by
  obtain ⟨h1, h2, h3, h4, h5, h6⟩ := h
  have hz := hb.size
  exact ⟨(hb.cell (by show H < _; omega)).trans h1, (hb.cell (by show H < _; omega)).trans h2, (hb.cell (by show H < _; omega)).trans h3, h4.trans (hb.mono h6), h5, by omega⟩
theorem held_alloc {H H0 : Nat} {p : PassV} {w0 W : World} (h : W.cell? ⟨H, 0, none⟩ = some (.int .i64 p.f) ∧ W.cell? ⟨H, 1, none⟩ = some (.int .i64 p.t) ∧ W.cell? ⟨H, 2, none⟩ = some (.string p.way) ∧ Below H0 w0 W ∧ H < H0 ∧ H0 ≤ W.heap.size) (o : Obj) :
    (W.alloc o).cell? ⟨H, 0, none⟩ = some (.int .i64 p.f) ∧ (W.alloc o).cell? ⟨H, 1, none⟩ = some (.int .i64 p.t) ∧ (W.alloc o).cell? ⟨H, 2, none⟩ = some (.string p.way) ∧ Below H0 w0 (W.alloc o) ∧ H < H0 ∧ H0 ≤ (W.alloc o).heap.size :=
  held_below h ((Below.refl _ _).alloc (Nat.le_refl _) o)
theorem held_drew {H H0 : Nat} {p : PassV} {w0 W : World} (h : W.cell? ⟨H, 0, none⟩ = some (.int .i64 p.f) ∧ W.cell? ⟨H, 1, none⟩ = some (.int .i64 p.t) ∧ W.cell? ⟨H, 2, none⟩ = some (.string p.way) ∧ Below H0 w0 W ∧ H < H0 ∧ H0 ≤ W.heap.size) :
    W.drew.cell? ⟨H, 0, none⟩ = some (.int .i64 p.f) ∧ W.drew.cell? ⟨H, 1, none⟩ = some (.int .i64 p.t) ∧ W.drew.cell? ⟨H, 2, none⟩ = some (.string p.way) ∧ Below H0 w0 W.drew ∧ H < H0 ∧ H0 ≤ W.drew.heap.size :=
  held_below h (Below.refl _ _).drew
theorem held_start {H : Nat} {p : PassV} {wr w2 : World} {o : Obj} (hH : wr.heap.size = H) (ho : o = .cells #[.int .i64 p.f, .int .i64 p.t, .string p.way] 116) (hb : Below (wr.alloc o).heap.size (wr.alloc o) w2) :
    w2.cell? ⟨H, 0, none⟩ = some (.int .i64 p.f) ∧ w2.cell? ⟨H, 1, none⟩ = some (.int .i64 p.t) ∧ w2.cell? ⟨H, 2, none⟩ = some (.string p.way) ∧ Below (H + 1) w2 w2 ∧ H < H + 1 ∧ H + 1 ≤ w2.heap.size := by
  subst hH; subst ho
  have hz := hb.size
  simp at hz
  refine ⟨(hb.cell (by simp)).trans ?_, (hb.cell (by simp)).trans ?_, (hb.cell (by simp)).trans ?_, Below.refl _ _, by omega, hz⟩ <;> simp [go_sem]

theorem held_end {H H0 : Nat} {p : PassV} {w wr w2 W : World} {o : Obj} (hH : wr.heap.size = H) (hbr : Below w.heap.size w wr) (hb2 : Below (wr.alloc o).heap.size (wr.alloc o) w2) (h : W.cell? ⟨H, 0, none⟩ = some (.int .i64 p.f) ∧ W.cell? ⟨H, 1, none⟩ = some (.int .i64 p.t) ∧ W.cell? ⟨H, 2, none⟩ = some (.string p.way) ∧ Below H0 w2 W ∧ H < H0 ∧ H0 ≤ W.heap.size) : Below w.heap.size w W := by
  have hz := hbr.size
  exact (bnext (bal hbr o) hb2).trans (h.2.2.2.1.mono (by omega))

theorem CheckPasses_any (n : Int) (a : Option Addr) (cap : Nat) (l : List PassV) (w : World) (hS : PassesR w a cap l) (hl : l.length ≤ 1048576) (hw : ∀ p ∈ l, p.way.size ≤ 1048576) :
    Calls Tryz.prog 82 #[.int .i64 n, .slice a l.length cap] w fun r w' => r = .returned (.int .i64 (passesE n l)) ∧ Below w.heap.size w w' := by
  have hcap := hS.le
  have hm := hS.max
  by_cases h1 : n < 2
  · have e : passesE n l = 3 := by unfold passesE; rw [if_pos (.inl h1)]
    rw [e]
    clear e
    go_enter Tryz.func82, Tryz.ntmps82
    go_wp2_with (first | (go_at_call 102; refine (when_any _ _ _).mono ?_; rintro e w' ⟨rfl, rfl⟩) | (go_at_call 99; refine (first_any _ _ [_, _] _ (reps_newN cIntS [_, _] 2 rfl (by decide) _ _ (by simp) rfl)).mono ?_; rintro e w' ⟨rfl, rfl⟩))
    all_goals
      go_ret
      exact ⟨rfl, bal (Below.refl _ _) _⟩
  by_cases h2 : 12 < n
  · have e : passesE n l = 3 := by unfold passesE; rw [if_pos (.inr h2)]
    rw [e]
    clear e
    go_enter Tryz.func82, Tryz.ntmps82
    go_wp2_with (first | (go_at_call 102; refine (when_any _ _ _).mono ?_; rintro e w' ⟨rfl, rfl⟩) | (go_at_call 99; refine (first_any _ _ [_, _] _ (reps_newN cIntS [_, _] 2 rfl (by decide) _ _ (by simp) rfl)).mono ?_; rintro e w' ⟨rfl, rfl⟩))
    all_goals
      go_ret
      exact ⟨rfl, bal (Below.refl _ _) _⟩
  by_cases h3 : 1000 < l.length
  · have e : passesE n l = 5 := by unfold passesE; rw [if_neg (by omega), if_pos h3]
    rw [e]
    clear e
    go_enter Tryz.func82, Tryz.ntmps82
    go_wp2_with (first | (go_at_call 102; refine (when_any _ _ _).mono ?_; rintro e w' ⟨rfl, rfl⟩) | (go_at_call 99; refine (first_any _ _ [_, _] _ (reps_newN cIntS [_, _] 2 rfl (by decide) _ _ (by simp) rfl)).mono ?_; rintro e w' ⟨rfl, rfl⟩))
    all_goals
      go_ret
      exact ⟨rfl, bal (Below.refl _ _) _⟩
  have e : passesE n l = passesGo n l := by unfold passesE; rw [if_neg (by omega), if_neg h3]
  have HE := hid e; clear e
  have HW := hid hw; clear hw
  go_enter Tryz.func82, Tryz.ntmps82
  go_wp2_with (first | (go_at_call 102; refine (when_any _ _ _).mono ?_; rintro e w' ⟨rfl, rfl⟩) | (go_at_call 99; refine (first_any _ _ [_, _] _ (reps_newN cIntS [_, _] 2 rfl (by decide) _ _ (by simp) rfl)).mono ?_; rintro e w' ⟨rfl, rfl⟩))
  go_loopw [7, 8, 9, 10, 29] (fun _ _ _ _ i wr => ∃ k : Nat, k ≤ l.length ∧ i = .int .i64 k ∧ passesGo n (l.drop k) = passesE n l ∧ Below w.heap.size w wr) (fun _ _ _ _ i _ => l.length - (intOf i).toNat)
  case atStart => exact ⟨0, by omega, rfl, HE.out.symm, bal (Below.refl _ _) _⟩
  case round =>
    obtain ⟨k, hk, rfl, hf, hbr⟩ := hrel
    have hSr := hS.below hbr
    by_cases hlt : k < l.length
    · have hs := passesGo_step n l k hlt
      rw [hf] at hs
      have hwy := HW.out (atD pass0 l k) (by simp [atD, hlt])
      have HS := hid hs; clear hs hf
      obtain ⟨q, hq⟩ : ∃ q, ((atD pass0 l k).t == (atD pass0 l k).f) = q := ⟨_, rfl⟩
      by_cases b1 : min (atD pass0 l k).f (atD pass0 l k).t < 1
      · have hE : passE n (atD pass0 l k) = 3 := by unfold passE; rw [if_pos (by omega)]
        have HE2 := hid hE; clear hE
        have hF : ∀ x y z, firstV [3, x, y, z] = 3 := fun _ _ _ => rfl
        go_wp2_with (first | (with_reducible refine wpList_idxS _ pass0 E_passes F_pass cPass1 (by with_unfolding_all rfl) (by with_unfolding_all rfl) (hSr) (by first | omega | (simp; done)) (by first | omega | (simp; done)) (fun _ => by with_unfolding_all rfl) (fun _ => ?_)) | (go_at_call 142; refine (trimOU_any _ _ (by omega)).mono ?_; rintro e w2 ⟨rfl, hb2⟩))
        have hst := held_start (p := atD pass0 l k) (wr := wr) rfl rfl hb2
        go_region_held3 (fun W => W.cell? ⟨wr.heap.size, 0, none⟩ = some (.int .i64 (atD pass0 l k).f) ∧ W.cell? ⟨wr.heap.size, 1, none⟩ = some (.int .i64 (atD pass0 l k).t) ∧ W.cell? ⟨wr.heap.size, 2, none⟩ = some (.string (atD pass0 l k).way) ∧ Below (wr.heap.size + 1) w2 W ∧ wr.heap.size < wr.heap.size + 1 ∧ wr.heap.size + 1 ≤ W.heap.size)
            (first | assumption | exact held_alloc ‹_› _ | exact held_drew ‹_› | exact held_below ‹_› ‹_›)
            (first | (go_at_call 102; refine (whenV_any _ _ _).mono ?_; rintro e w' ⟨rfl, rfl⟩) | (go_at_call 143; refine (distanceW_any (atD pass0 l k) _).mono ?_; rintro e w5 ⟨d5, rfl, hb5⟩) | (go_at_call 99; refine (firstV_any _ _ [_, _, _, _] _ (reps_newN cIntS [_, _, _, _] 4 rfl (by decide) _ _ (by simp) rfl)).mono ?_; rintro e w' ⟨rfl, rfl⟩))
        clear hst
        have hb9 := held_end (p := atD pass0 l k) rfl hbr hb2 ‹_›
        go_wp2_with fail
        go_ret
        exact ⟨by have := HS.out; rw [HE2.out, if_pos (by omega)] at this; rw [this]; rfl, hb9⟩
      by_cases b2 : n < max (atD pass0 l k).f (atD pass0 l k).t
      · have hE : passE n (atD pass0 l k) = 3 := by unfold passE; rw [if_pos (by omega)]
        have HE2 := hid hE; clear hE
        have hF : ∀ x y z, firstV [3, x, y, z] = 3 := fun _ _ _ => rfl
        go_wp2_with (first | (with_reducible refine wpList_idxS _ pass0 E_passes F_pass cPass1 (by with_unfolding_all rfl) (by with_unfolding_all rfl) (hSr) (by first | omega | (simp; done)) (by first | omega | (simp; done)) (fun _ => by with_unfolding_all rfl) (fun _ => ?_)) | (go_at_call 142; refine (trimOU_any _ _ (by omega)).mono ?_; rintro e w2 ⟨rfl, hb2⟩))
        have hst := held_start (p := atD pass0 l k) (wr := wr) rfl rfl hb2
        go_region_held3 (fun W => W.cell? ⟨wr.heap.size, 0, none⟩ = some (.int .i64 (atD pass0 l k).f) ∧ W.cell? ⟨wr.heap.size, 1, none⟩ = some (.int .i64 (atD pass0 l k).t) ∧ W.cell? ⟨wr.heap.size, 2, none⟩ = some (.string (atD pass0 l k).way) ∧ Below (wr.heap.size + 1) w2 W ∧ wr.heap.size < wr.heap.size + 1 ∧ wr.heap.size + 1 ≤ W.heap.size)
            (first | assumption | exact held_alloc ‹_› _ | exact held_drew ‹_› | exact held_below ‹_› ‹_›)
            (first | (go_at_call 102; refine (whenV_any _ _ _).mono ?_; rintro e w' ⟨rfl, rfl⟩) | (go_at_call 143; refine (distanceW_any (atD pass0 l k) _).mono ?_; rintro e w5 ⟨d5, rfl, hb5⟩) | (go_at_call 99; refine (firstV_any _ _ [_, _, _, _] _ (reps_newN cIntS [_, _, _, _] 4 rfl (by decide) _ _ (by simp) rfl)).mono ?_; rintro e w' ⟨rfl, rfl⟩))
        clear hst
        have hb9 := held_end (p := atD pass0 l k) rfl hbr hb2 ‹_›
        go_wp2_with fail
        go_ret
        exact ⟨by have := HS.out; rw [HE2.out, if_pos (by omega)] at this; rw [this]; rfl, hb9⟩
      have hP := passE_first n (atD pass0 l k) (by omega) (by omega) (by omega) (by omega)
      rw [hq] at hP
      by_cases hE : passE n (atD pass0 l k) = 0
      · have HE2 := hid hE
        rw [hE] at hP
        have hF := hP.symm
        clear hP hE
        go_wp2_with (first | (with_reducible refine wpList_idxS _ pass0 E_passes F_pass cPass1 (by with_unfolding_all rfl) (by with_unfolding_all rfl) (hSr) (by first | omega | (simp; done)) (by first | omega | (simp; done)) (fun _ => by with_unfolding_all rfl) (fun _ => ?_)) | (go_at_call 142; refine (trimOU_any _ _ (by omega)).mono ?_; rintro e w2 ⟨rfl, hb2⟩))
        have hst := held_start (p := atD pass0 l k) (wr := wr) rfl rfl hb2
        go_region_held3 (fun W => W.cell? ⟨wr.heap.size, 0, none⟩ = some (.int .i64 (atD pass0 l k).f) ∧ W.cell? ⟨wr.heap.size, 1, none⟩ = some (.int .i64 (atD pass0 l k).t) ∧ W.cell? ⟨wr.heap.size, 2, none⟩ = some (.string (atD pass0 l k).way) ∧ Below (wr.heap.size + 1) w2 W ∧ wr.heap.size < wr.heap.size + 1 ∧ wr.heap.size + 1 ≤ W.heap.size)
            (first | assumption | exact held_alloc ‹_› _ | exact held_drew ‹_› | exact held_below ‹_› ‹_›)
            (first | (go_at_call 102; refine (whenV_any _ _ _).mono ?_; rintro e w' ⟨rfl, rfl⟩) | (go_at_call 143; refine (distance_any (atD pass0 l k) _ (by omega) (by omega) (by omega) (by omega)).mono ?_; rintro e w5 ⟨rfl, hb5⟩) | (go_at_call 99; refine (firstV_any _ _ [_, _, _, _] _ (reps_newN cIntS [_, _, _, _] 4 rfl (by decide) _ _ (by simp) rfl)).mono ?_; rintro e w' ⟨rfl, rfl⟩))
        clear hst
        have hb9 := held_end (p := atD pass0 l k) rfl hbr hb2 ‹_›
        go_wp2_with fail
        exact ⟨⟨k + 1, by omega, by go_num, by have := HS.out; rw [HE2.out] at this; exact this.symm, hb9⟩, by simp [intOf]; omega⟩
      · obtain ⟨E, hEd⟩ : ∃ E, E = passE n (atD pass0 l k) := ⟨_, rfl⟩
        rw [← hEd] at hP hE
        have hF := hP.symm
        have hne : (E != 0) = true := by simpa using hE
        have HE2 := hid hEd.symm
        clear hP hEd
        go_wp2_with (first | (with_reducible refine wpList_idxS _ pass0 E_passes F_pass cPass1 (by with_unfolding_all rfl) (by with_unfolding_all rfl) (hSr) (by first | omega | (simp; done)) (by first | omega | (simp; done)) (fun _ => by with_unfolding_all rfl) (fun _ => ?_)) | (go_at_call 142; refine (trimOU_any _ _ (by omega)).mono ?_; rintro e w2 ⟨rfl, hb2⟩))
        have hst := held_start (p := atD pass0 l k) (wr := wr) rfl rfl hb2
        go_region_held3 (fun W => W.cell? ⟨wr.heap.size, 0, none⟩ = some (.int .i64 (atD pass0 l k).f) ∧ W.cell? ⟨wr.heap.size, 1, none⟩ = some (.int .i64 (atD pass0 l k).t) ∧ W.cell? ⟨wr.heap.size, 2, none⟩ = some (.string (atD pass0 l k).way) ∧ Below (wr.heap.size + 1) w2 W ∧ wr.heap.size < wr.heap.size + 1 ∧ wr.heap.size + 1 ≤ W.heap.size)
            (first | assumption | exact held_alloc ‹_› _ | exact held_drew ‹_› | exact held_below ‹_› ‹_›)
            (first | (go_at_call 102; refine (whenV_any _ _ _).mono ?_; rintro e w' ⟨rfl, rfl⟩) | (go_at_call 143; refine (distance_any (atD pass0 l k) _ (by omega) (by omega) (by omega) (by omega)).mono ?_; rintro e w5 ⟨rfl, hb5⟩) | (go_at_call 99; refine (firstV_any _ _ [_, _, _, _] _ (reps_newN cIntS [_, _, _, _] 4 rfl (by decide) _ _ (by simp) rfl)).mono ?_; rintro e w' ⟨rfl, rfl⟩))
        clear hst
        have hb9 := held_end (p := atD pass0 l k) rfl hbr hb2 ‹_›
        go_wp2_with fail
        go_ret
        exact ⟨by have := HS.out; rw [HE2.out, if_pos (by omega)] at this; rw [this]; rfl, hb9⟩
    · have : k = l.length := by omega
      subst this
      rw [List.drop_length] at hf
      have HF := hid hf; clear hf
      go_wp2_with fail
      go_ret
      exact ⟨by rw [← HF.out]; rfl, hbr⟩
end Go.Proofs.YtogbclcnmogaeaaGreatDoor
