/- Contracts and plain facts that the claim uses (MaL MaM MaN MaO MaR MaS QrH). Conditions: as each one states. -/
import Derived.Test.YtbchpkmcpplidaaGreatDoorXc05
import Derived.Test.YtbchpkmcpplidaaGreatDoorXc08
set_option linter.all false

namespace Go.Proofs.YtbchpkmcpplidaaGreatDoor
open Go.RowKit
set_option maxHeartbeats 8000000
set_option maxRecDepth 100000

/-- one more carrier in a slot meets none, and is in the slot of none. -/
noncomputable def hurtM (m : MacV) (s b : Int) : Bool := decide (b = s) || (meetM m s b).isSome
noncomputable def apartM (m : MacV) (s : Int) (l : List Int) : Bool := !l.any (hurtM m s)

theorem apart1_any (m : MacV) (ad : Option Addr) (cap : Nat) (bs bm : Nat) (s b : Int) (w : World) (hm : w.heap[bm]? = some (.cells (mC m ad cap) 24)) (hs : w.heap[bs]? = some (.cells #[.int .i64 s] 3)) (hR : Ints w ad cap m.sw) (hg : m.gears ≤ 16) (s0 : 0 ≤ s) (s1 : s < 4 * m.gears) (b0 : 0 ≤ b) (b1 : b < 4 * m.gears) :
  Calls Tryz.prog 128 #[.int .i64 b, .pointer (some ⟨bs, 0, none⟩), .pointer (some ⟨bm, 0, none⟩)] w fun r w' => r = .returned (.bool (hurtM m s b)) ∧ Below w.heap.size w w' := by
 have CM := fun w h => meet_any m ad cap s b w h hg s0 s1 b0 b1
 have hh : hurtM m s b = (decide (b = s) || (meetM m s b).isSome) := rfl
 rw [hh]
 clear hh
 have S0 := SL.nil w
 by_cases e : b = s
 ·have d1 : (b == s) = true := by simpa using e
  have d2 : decide (b = s) = true := decide_eq_true e
  rw [d2]
  clear e CM d2
  go_enter Tryz.func128, Tryz.ntmps128
  go_wp2_with (with_reducible refine wpList_ldB F_int (by with_unfolding_all rfl) (by with_unfolding_all rfl) hs (by with_unfolding_all rfl) ?_)
  go_ret
  exact ⟨rfl, Below.refl _ _⟩
 ·have d1 : (b == s) = false := by simpa using e
  have d2 : decide (b = s) = false := decide_eq_false e
  rw [d2, Bool.false_or]
  clear e d2
  cases hf : meetM m s b with
  | none =>
   rw [hf] at CM
   have HM := hid CM
   clear CM hf
   go_enter Tryz.func128, Tryz.ntmps128
   go_wp2_with (first | (with_reducible refine wpList_ldB F_int (by with_unfolding_all rfl) (by with_unfolding_all rfl) hs (by with_unfolding_all rfl) ?_) | (with_reducible refine wpList_ldS (n := 4) (us := mC m ad cap) A_mach (by kernel_rfl) (by with_unfolding_all rfl) (by with_unfolding_all rfl) (by assumption) (by with_unfolding_all rfl) (by with_unfolding_all rfl) ?_))
   refine (HM.out _ hR).mono ?_
   rintro e w1 ⟨rfl, b1⟩
   have hS1 := (S0.mono b1).box (.cells #[.int .i64 0, .int .i64 0] 104)
   go_wp2_with ((with_reducible refine wpList_stoR (us := #[.int .i64 0, .int .i64 0]) 0 (by with_unfolding_all rfl) (by with_unfolding_all rfl) (hS1) (by with_unfolding_all rfl) (by kernel_rfl) (by with_unfolding_all rfl) (by with_unfolding_all rfl) ?_); intro w3 hS3)
   go_ret
   exact ⟨rfl, hS3.b⟩
  | some v =>
   rw [hf] at CM
   have HM := hid CM
   clear CM hf
   go_enter Tryz.func128, Tryz.ntmps128
   go_wp2_with (first | (with_reducible refine wpList_ldB F_int (by with_unfolding_all rfl) (by with_unfolding_all rfl) hs (by with_unfolding_all rfl) ?_) | (with_reducible refine wpList_ldS (n := 4) (us := mC m ad cap) A_mach (by kernel_rfl) (by with_unfolding_all rfl) (by with_unfolding_all rfl) (by assumption) (by with_unfolding_all rfl) (by with_unfolding_all rfl) ?_))
   refine (HM.out _ hR).mono ?_
   rintro e w1 ⟨rfl, b1⟩
   have hS1 := (S0.mono b1).box (.cells #[.int .i64 0, .int .i64 0] 104)
   go_wp2_with ((with_reducible refine wpList_stoR (us := meC v) 0 (by with_unfolding_all rfl) (by with_unfolding_all rfl) (hS1) (by with_unfolding_all rfl) (by kernel_rfl) (by with_unfolding_all rfl) (by with_unfolding_all rfl) ?_); intro w3 hS3)
   go_ret
   exact ⟨rfl, hS3.b⟩

/-- slices.IndexFunc with a function of the program. -/
theorem indexF_any (p1 p2 : Value) (g : Int → Bool) (al : Option Addr) (cl : Nat) (l : List Int) (w : World) (hL : Ints w al cl l)
  (HF : ∀ x ∈ l, ∀ w', Below w.heap.size w w' → Calls Tryz.prog 128 #[.int .i64 x, p1, p2] w' fun r w'' => r = .returned (.bool (g x)) ∧ Below w'.heap.size w' w'') :
  Calls Tryz.prog 156 #[.slice al l.length cl, .func (.func 128) #[] #[p1, p2]] w fun r w' => ∃ z : Int, r = .returned (.int .i64 z) ∧ decide (0 ≤ z) = l.any g ∧ Below w.heap.size w w' := by
 have hcap := hL.le
 have hmx := hL.max
 have H := hid HF
 clear HF
 have hS := SL.nil w
 go_enter Tryz.func156, Tryz.ntmps156
 go_wp2_with fail
 go_loopw [8] (fun i wr => ∃ k : Nat, k ≤ l.length ∧ i = .int .i64 k ∧ (l.take k).any g = false ∧ SL w.heap.size w wr []) (fun i _ => l.length - (intOf i).toNat)
 case atStart => exact ⟨0, by omega, rfl, rfl, hS⟩
 case round =>
  clear hS
  obtain ⟨k, hk, rfl, hno, hSr⟩ := hrel
  have hLr := hL.below hSr.b
  by_cases hlt : k < l.length
  ·have hmem := atD_mem hlt
   have ht := take_snoc hlt
   obtain ⟨x, hx⟩ : ∃ x, x = atD 0 l k := ⟨_, rfl⟩
   rw [← hx] at hmem ht
   have HX := hid hx; have HT := hid ht; have HNO := hid hno
   have C := fun w' h => H.out x hmem w' h
   clear hx ht hno
   cases hgx : g x
   ·rw [hgx] at C
    have HC := hid C
    have HG := hid hgx
    clear C hgx
    go_wp2_with ((with_reducible refine wpList_idx _ 0 E_ints F_int cInt1 (by with_unfolding_all rfl) (by with_unfolding_all rfl) (hLr) (by first | omega | (simp; done)) (by first | omega | (simp; done)) (fun _ => by with_unfolding_all rfl) (fun _ => ?_)); rw [← HX.out])
    refine (HC.out _ hSr.b).mono ?_
    rintro e w1 ⟨rfl, b1⟩
    have hS1 := hSr.mono b1
    go_wp2_with fail
    exact ⟨⟨k + 1, by omega, by go_num, by rw [HT.out, List.any_append, HNO.out]; simp [HG.out], hS1⟩, by simp [intOf]; omega⟩
   ·rw [hgx] at C
    have HC := hid C
    have HG := hid hgx
    clear C hgx
    go_wp2_with ((with_reducible refine wpList_idx _ 0 E_ints F_int cInt1 (by with_unfolding_all rfl) (by with_unfolding_all rfl) (hLr) (by first | omega | (simp; done)) (by first | omega | (simp; done)) (fun _ => by with_unfolding_all rfl) (fun _ => ?_)); rw [← HX.out])
    refine (HC.out _ hSr.b).mono ?_
    rintro e w1 ⟨rfl, b1⟩
    have hS1 := hSr.mono b1
    go_wp2_with fail
    go_ret
    refine ⟨_, rfl, ?_, hS1.b⟩
    rw [List.any_eq_true.2 ⟨x, hmem, HG.out⟩]
    simp
  ·have hkk : k = l.length := by omega
   subst hkk
   rw [List.take_length] at hno
   have HNO := hid hno
   clear hno
   go_wp2_with fail
   go_ret
   exact ⟨_, rfl, by rw [HNO.out]; decide, hSr.b⟩
theorem containsF_any (p1 p2 : Value) (g : Int → Bool) (al : Option Addr) (cl : Nat) (l : List Int) (w : World) (hL : Ints w al cl l)
  (HF : ∀ x ∈ l, ∀ w', Below w.heap.size w w' → Calls Tryz.prog 128 #[.int .i64 x, p1, p2] w' fun r w'' => r = .returned (.bool (g x)) ∧ Below w'.heap.size w' w'') :
  Calls Tryz.prog 127 #[.slice al l.length cl, .func (.func 128) #[] #[p1, p2]] w fun r w' => r = .returned (.bool (l.any g)) ∧ Below w.heap.size w w' := by
 have HI := hid (indexF_any p1 p2 g al cl l w hL HF)
 clear HF
 go_enter Tryz.func127, Tryz.ntmps127
 go_wp2_with fail
 refine HI.out.mono ?_
 rintro e w1 ⟨z, rfl, hz, b1⟩
 have HZ := hid hz
 clear hz
 go_wp2_with fail
 go_ret
 exact ⟨by rw [← HZ.out]; rfl, b1⟩
theorem apart_any (m : MacV) (ad : Option Addr) (cap : Nat) (al : Option Addr) (cl : Nat) (s : Int) (l : List Int) (w : World) (hR : Ints w ad cap m.sw) (hL : Ints w al cl l) (hg : m.gears ≤ 16) (s0 : 0 ≤ s) (s1 : s < 4 * m.gears) (hl : ∀ x ∈ l, 0 ≤ x ∧ x < 4 * m.gears) :
  Calls Tryz.prog 81 #[mV m ad cap, .int .i64 s, .slice al l.length cl] w fun r w' => r = .returned (.bool (apartM m s l)) ∧ Below w.heap.size w w' := by
 have hS := ((SL.nil w).box (.cells (mC m ad cap) 24)).box (.cells #[.int .i64 s] 3)
 simp only [World.size_alloc] at hS
 have q1 := (hS.blk 1 rfl).1
 have q0 := (hS.blk 0 rfl).1
 have hb : apartM m s l = !l.any (hurtM m s) := rfl
 rw [hb]
 clear hb
 go_enter Tryz.func81, Tryz.ntmps81
 go_wp2_with fail
 refine (containsF_any _ _ (hurtM m s) al cl l _ (hL.below hS.b) (fun x hx w' hw' => ?_)).mono ?_
 ·refine apart1_any m ad cap _ _ s x w' ?_ ?_ ((hR.below hS.b).below hw') hg s0 s1 (hl x hx).1 (hl x hx).2
  ·exact (hw'.block _ (hS.blk 1 rfl).2.2).trans q1
  ·exact (hw'.block _ (hS.blk 0 rfl).2.2).trans q0
 rintro e w1 ⟨rfl, b1⟩
 go_wp2_with fail
 go_ret
 exact ⟨rfl, bnext hS.b b1⟩

def slotsL (m : MacV) : List Int := (List.range (4 * m.gears).toNat).map fun (i : Nat) => (i : Int)
theorem slotsL_len (m : MacV) : (slotsL m).length = (4 * m.gears).toNat := by simp [slotsL]
theorem slotsL_take (m : MacV) {k : Nat} (h : k < (slotsL m).length) : (slotsL m).take (k + 1) = (slotsL m).take k ++ [(k : Int)] := by
 rw [List.take_succ_eq_append_getElem h]
 simp [slotsL]
noncomputable def freeM (m : MacV) (l : List Int) : List Int := (slotsL m).filter fun s => apartM m s l
theorem accE_zero {m : MacV} {l : List Int} (h : accE m l = 0) : LoadOk m l ∧ firstM m l = none := by
 unfold accE at h
 split at h
 ·rename_i h1; exact absurd h h1
 ·rename_i h1
  refine ⟨loadE_zero (by simpa using h1), ?_⟩
  cases hf : firstM m l with
  | none => rfl
  | some v => rw [hf] at h; simp at h

theorem mFree_any (m : MacV) (ad : Option Addr) (cap : Nat) (al : Option Addr) (cl : Nat) (l : List Int) (w : World) (hR : Ints w ad cap m.sw) (hL : Ints w al cl l) (HK : ChkL m ad cap al cl l) :
  Calls Tryz.prog 33 #[mV m ad cap, .slice al l.length cl] w fun r w' => ∃ v, r = .returned (.tuple #[v, .int .i64 (accE m l)]) ∧ OwnI w.heap.size w' v (if accE m l = 0 then freeM m l else []) ∧ Below w.heap.size w w' := by
 have CA := fun w h h2 => mAccept_any m ad cap al cl l w h h2 HK
 have hS := (SL.nil w).box (.cells (mC m ad cap) 24)
 have R1 := hR.below hS.b
 have L1 := hL.below hS.b
 clear HK
 by_cases he : accE m l = 0
 ·have hok := (accE_zero he).1
  have hlo := hok.ok.lo
  have hhi := hok.ok.hi
  have CS := fun w => slots_any m ad cap w (by omega) hhi
  have CP := fun (k : Nat) w h h2 (hk : (k : Int) < 4 * m.gears) => apart_any m ad cap al cl (k : Int) l w h h2 hhi (by omega) hk hok.rng
  rw [if_pos he]
  rw [he] at CA ⊢
  have hlen := slotsL_len m
  obtain ⟨n, hn⟩ : ∃ n : Nat, 4 * m.gears = n := ⟨(4 * m.gears).toNat, by omega⟩
  have hlen2 : (slotsL m).length = n := by rw [hlen]; omega
  rw [hn] at CS CP
  have hn64 : n ≤ 64 := by omega
  have HC := hid CA; have HS := hid CS; have HP := hid CP; have HLL := hid hlen2
  clear CA CS CP hok he hlen hlen2 hn
  go_enter Tryz.func33, Tryz.ntmps33
  go_wp2_with fail
  refine (HC.out _ R1 L1).mono ?_
  rintro e w1 ⟨rfl, b1⟩
  have hS1 := hS.mono b1
  have q1 := (hS1.blk 0 rfl).1
  go_wp2_with (with_reducible refine wpList_ldS (n := 4) (us := mC m ad cap) A_mach (by kernel_rfl) (by with_unfolding_all rfl) (by with_unfolding_all rfl) (by assumption) (by with_unfolding_all rfl) (by with_unfolding_all rfl) ?_)
  refine (HS.out _).mono ?_
  rintro e w2 ⟨rfl, b2⟩
  have hS2 := (hS1.mono b2).nilS (α := Int) (e := 3) cIntS
  clear q1
  go_wp2_with fail
  go_loopw [7, 17] (fun v i wr => ∃ k : Nat, k ≤ n ∧ i = .int .i64 k ∧ SL w.heap.size w wr [pOwn cInt 1 3 v (((slotsL m).take k).filter fun s => apartM m s l), pBlk w.heap.size (.cells (mC m ad cap) 24)]) (fun _ i _ => n - (intOf i).toNat)
  case atStart => exact ⟨0, by omega, rfl, hS2⟩
  case round =>
   clear hS2 hS1 hS
   obtain ⟨k, hk, rfl, hSr⟩ := hrel
   have q1 := (hSr.blk 1 rfl).1
   by_cases hlt : k < n
   ·have ht := slotsL_take m (k := k) (by rw [HLL.out]; exact hlt)
    have hle : (((slotsL m).take k).filter fun s => apartM m s l).length ≤ 64 := Nat.le_trans (List.length_filter_le _ _) (by rw [List.length_take]; omega)
    have HT := hid ht
    have C := fun w h h2 => HP.out k w h h2 (by omega)
    clear ht
    cases hap : apartM m k l
    ·rw [hap] at C
     have HA := hid hap; have HCC := hid C
     clear hap C
     go_wp2_with (with_reducible refine wpList_ldS (n := 4) (us := mC m ad cap) A_mach (by kernel_rfl) (by with_unfolding_all rfl) (by with_unfolding_all rfl) (by assumption) (by with_unfolding_all rfl) (by with_unfolding_all rfl) ?_)
     refine (HCC.out _ (hR.below hSr.b) (hL.below hSr.b)).mono ?_
     rintro e w4 ⟨rfl, b4⟩
     have hS4 := hSr.mono b4
     go_wp2_with fail
     exact ⟨⟨k + 1, by omega, by go_num, by rw [HT.out, List.filter_append]; simpa [HA.out] using hS4⟩, by simp [intOf]; omega⟩
    ·rw [hap] at C
     have HA := hid hap; have HCC := hid C
     clear hap C
     go_wp2_with (with_reducible refine wpList_ldS (n := 4) (us := mC m ad cap) A_mach (by kernel_rfl) (by with_unfolding_all rfl) (by with_unfolding_all rfl) (by assumption) (by with_unfolding_all rfl) (by with_unfolding_all rfl) ?_)
     refine (HCC.out _ (hR.below hSr.b) (hL.below hSr.b)).mono ?_
     rintro e w4 ⟨rfl, b4⟩
     have hS4 := hSr.mono b4
     go_wp2_with ((with_reducible refine wpList_pushL (y := (k : Int)) 0 E_ints (by with_unfolding_all rfl) (by with_unfolding_all rfl) (hS4) (by with_unfolding_all rfl) cIntO ⟨rfl, rfl⟩ (by first | with_unfolding_all rfl | simp) (by with_unfolding_all rfl) (by first | omega | (simp; omega)) (by first | omega | (simp; omega)) ?_); intro v5 w5 hS5)
     exact ⟨⟨k + 1, by omega, by go_num, by rw [HT.out, List.filter_append]; simpa [HA.out] using hS5⟩, by simp [intOf]; omega⟩
   ·have hkn : k = n := by omega
    subst hkn
    have et : ((slotsL m).take k).filter (fun s => apartM m s l) = freeM m l := by rw [List.take_of_length_le (by rw [HLL.out]; omega)]; rfl
    rw [et] at hSr
    clear et
    go_wp2_with fail
    go_ret2
    exact ⟨_, rfl, hSr.own 0 rfl, hSr.b⟩
 ·obtain ⟨E, hE⟩ : ∃ E, E = accE m l := ⟨_, rfl⟩
  rw [← hE] at CA he ⊢
  have hne : (E != 0) = true := by simpa using he
  rw [if_neg he]
  have HC := hid CA
  clear CA hE he
  go_enter Tryz.func33, Tryz.ntmps33
  go_wp2_with fail
  refine (HC.out _ R1 L1).mono ?_
  rintro e w1 ⟨rfl, b1⟩
  have hS1 := hS.mono b1
  go_wp2_with fail
  go_ret2
  exact ⟨_, rfl, own_nil cIntS, hS1.b⟩
end Go.Proofs.YtbchpkmcpplidaaGreatDoor

namespace Go.Proofs.YtbchpkmcpplidaaGreatDoor
open Go.RowKit
set_option maxHeartbeats 8000000
set_option maxRecDepth 100000

theorem SL.madeB {B : Nat} {w0 w : World} {L : List Pc} (h : SL B w0 w L) : SL B w0 (w.alloc (.map #[] 0)) (pMapB w.heap.size 0 (fun _ => false) :: L) :=
 h.new _ (b := some w.heap.size) (World.grownBy_alloc w _ .none) ⟨rfl, mapB_made w⟩ (fun k e => by cases e; exact Nat.le_refl _)
theorem orbK_len2 (p : List Int) (i : Int) (j : Nat) : (orbK p i j).length = j := by simp [orbK]

theorem mPaths_any (m : MacV) (ad : Option Addr) (cap : Nat) (w : World) (hR : Ints w ad cap m.sw) (HK : ChkM m ad cap) :
  Calls Tryz.prog 13 #[mV m ad cap] w fun r w' => ∃ (v : Value) (qs : List (SlH × List Int)), r = .returned (.tuple #[v, .int .i64 (macE m)]) ∧ qs.map Prod.snd = (if macE m = 0 then cycK (permM m) (permM m).length else []) ∧ SL w.heap.size w w' (pOwn cSl 1 22 v (qs.map Prod.fst) :: qs.map inP) := by
 have hS := (SL.nil w).box (.cells (mC m ad cap) 24)
 have R1 := hR.below hS.b
 unfold ChkM at HK
 by_cases he : macE m = 0
 ·have hok := (macE_zero he).1
  have hlo := hok.lo
  have hhi := hok.hi
  have hp := permM_isP m
  have hpl := permM_len m
  obtain ⟨N, hN⟩ : ∃ N : Nat, (permM m).length = N := ⟨_, rfl⟩
  have hN4 : 4 * m.gears = N := by omega
  have CS := fun w => slots_any m ad cap w (by omega) hhi
  rw [hN4] at CS
  have CN := fun (s : Int) (k : Nat) w (h : Ints w ad cap m.sw) (h0 : 0 ≤ s) (h1 : s < N) => mnext_any m ad cap (itM m s k) w h hhi (itM_rng h0 (by omega) k).1 (itM_rng h0 (by omega) k).2
  have CE := fun (s : Int) (k : Nat) (h0 : 0 ≤ s) (h1 : s < N) => itM_succ (m := m) h0 (by omega) k
  have hN64 : N ≤ 64 := by omega
  rw [if_pos he, hN]
  rw [he] at HK ⊢
  obtain ⟨p, hpp⟩ : ∃ p, p = permM m := ⟨_, rfl⟩
  have CI : ∀ s k, itM m s k = itP p s k := by intro s k; rw [hpp]; rfl
  rw [← hpp] at hp hN ⊢
  have hmm := @run_makeMap Tryz.prog
  have HC := hid HK; have HS := hid CS; have HN := hid CN; have HE := hid CE; have HI := hid CI
  clear HK CS CN CE CI hok he hpl hpp
  go_enter Tryz.func13, Tryz.ntmps13
  go_wp2_with fail
  refine (HC.out _ R1).mono ?_
  rintro e w1 ⟨rfl, b1⟩
  have hS1 := hS.mono b1
  have q1 := (hS1.blk 0 rfl).1
  have hS2 := (hS1.madeB).nilS (α := SlH) (c := cSl) (sz := 1) (e := 22) cSlS
  have q2 := (hS2.blk 2 rfl).1
  obtain ⟨M, hM⟩ : ∃ M, M = w1.heap.size := ⟨_, rfl⟩
  go_wp2_with (with_reducible refine wpList_ldS (n := 4) (us := mC m ad cap) A_mach (by kernel_rfl) (by with_unfolding_all rfl) (by with_unfolding_all rfl) (by assumption) (by with_unfolding_all rfl) (by with_unfolding_all rfl) ?_)
  rw [← hM] at hS2 ⊢
  clear hM
  refine (HS.out _).mono ?_
  rintro e w3 ⟨rfl, b3⟩
  have hS3 := hS2.mono b3
  clear q1 q2 hmm
  go_wp2_with fail
  go_loopw [6, 18] (fun ov i wr => ∃ (k n : Nat) (f : Int → Bool) (qs : List (SlH × List Int)), k ≤ N ∧ i = .int .i64 k ∧ n ≤ 64 * k ∧ (∀ x : Int, 0 ≤ x → x < N → f x = decide (x ∈ (cycK p k).flatten)) ∧ qs.map Prod.snd = cycK p k ∧ SL w.heap.size w wr (pOwn cSl 1 22 ov (qs.map Prod.fst) :: pMapB M n f :: pBlk w.heap.size (.cells (mC m ad cap) 24) :: qs.map inP)) (fun _ i _ => N - (intOf i).toNat)
  case atStart => exact ⟨0, 0, fun _ => false, [], by omega, rfl, by omega, fun x h0 h1 => by simp [cycK], rfl, hS3⟩
  case round =>
   clear hS3 hS1 hS2 hS
   obtain ⟨k, n, f, qs, hk, rfl, hnk, hsn, hqs, hSL⟩ := hrel
   have HSN := hid hsn; have HQ := hid hqs
   have hql : qs.length ≤ k := by have := cycK_len p k; rw [← hqs] at this; simpa using this
   have hqlen : (qs.map Prod.fst).length ≤ 64 := by simp; omega
   clear hsn hqs
   by_cases hlt : k < N
   ·have hk0 : (0 : Int) ≤ k := by omega
    have hk1 : (k : Int) < p.length := by omega
    have hkN : k < p.length := by omega
    have hkI : InI (k : Int) := by unfold InI; omega
    have hmB := hSL.mapB 1 rfl
    have hsk := HSN.out k hk0 (by omega)
    by_cases hin : (k : Int) ∈ (cycK p k).flatten
    ·rw [decide_eq_true hin] at hsk
     have HSK := hid hsk; have HIN := hid hin
     clear hsk hin
     go_wp2_with ((with_reducible refine wpList_lookB (by with_unfolding_all rfl) (by with_unfolding_all rfl) (hmB) (hkI) (by with_unfolding_all rfl) ?_); rw [HSK.out])
     refine ⟨⟨k + 1, n, f, qs, by omega, by go_num, by omega, ?_, ?_, hSL⟩, by simp [intOf]; omega⟩
     ·rw [cycK_in HIN.out]; exact HSN.out
     ·rw [cycK_in HIN.out]; exact HQ.out
    ·rw [decide_eq_false hin] at hsk
     obtain ⟨d, hd⟩ := ord_ex hp hk0 hk1
     have hd0 := hd.pos
     have hd1 := hd.le
     have HSK := hid hsk; have HIN := hid hin; have HD := hid hd
     clear hsk hin hd
     go_wp2_with ((with_reducible refine wpList_lookB (by with_unfolding_all rfl) (by with_unfolding_all rfl) (hmB) (hkI) (by with_unfolding_all rfl) ?_); rw [HSK.out])
     have hSc := hSL.nilS (α := Int) (c := cInt) (sz := 1) (e := 3) cIntS
     go_loopw [8, 9] (fun cv av wq => ∃ (j n' : Nat) (g : Int → Bool), j ≤ d ∧ av = .int .i64 (itP p k j) ∧ lenV cv = j ∧ n' ≤ 64 * k + j ∧ (∀ x : Int, 0 ≤ x → x < N → g x = (decide (x ∈ (cycK p k).flatten) || decide (x ∈ orbK p k j))) ∧ SL w.heap.size w wq (pOwn cInt 1 3 cv (orbK p k j) :: pOwn cSl 1 22 u6 (qs.map Prod.fst) :: pMapB M n' g :: pBlk w.heap.size (.cells (mC m ad cap) 24) :: qs.map inP)) (fun cv _ _ => d - lenV cv)
     case atStart => exact ⟨0, n, f, by omega, rfl, rfl, by omega, fun x h0 h1 => by rw [HSN.out x h0 h1]; simp [orbK], hSc⟩
     case round =>
      clear hSc hmB hSL
      obtain ⟨j, n', g, hj, rfl, hlv, hn', hgs, hSq⟩ := hrel
      have HLV := hid hlv; have HGS := hid hgs
      clear hlv hgs
      obtain ⟨x0, x1⟩ := itP_rng hp hk0 hk1 j
      have hol := orbK_len2 p k j
      have hole : (orbK p k j).length ≤ 64 := by rw [hol]; omega
      have hat := HGS.out _ x0 (by omega)
      have hsuc := orbK_succ p k j
      have hXI : InI (itP p k j) := by unfold InI; omega
      have hmB := hSq.mapB 2 rfl
      have hmx : n' < maxLen := by unfold maxLen; omega
      obtain ⟨X, hX⟩ : ∃ X, X = itP p k j := ⟨_, rfl⟩
      have C := fun w h => HN.out (k : Int) j w h hk0 (by omega)
      rw [← HE.out (k : Int) j hk0 (by omega), HI.out, HI.out, ← hX] at C
      have HSU := hid hsuc; have HOL := hid hol; have HC := hid C
      clear hol hsuc C
      by_cases hjd : j < d
      ·have hf1 := orbK_out hp hkN HIN.out HD.out hj
       have hf2 := orbK_new hp hk0 hk1 HD.out hjd
       rw [decide_eq_false hf1, decide_eq_false hf2] at hat
       rw [← hX] at hat hXI x0 x1 HSU ⊢
       have HAT := hid hat
       clear hat hf1 hf2 hX
       go_wp2_with (first | ((with_reducible refine wpList_lookB (by with_unfolding_all rfl) (by with_unfolding_all rfl) (hmB) (hXI) (by with_unfolding_all rfl) ?_); rw [HAT.out]) | ((with_reducible refine wpList_putBL 2 (by with_unfolding_all rfl) (by with_unfolding_all rfl) (by with_unfolding_all rfl) (hSq) (by with_unfolding_all rfl) (hXI) (hmx) ?_); intro w4 hS4) | (((with_reducible refine wpList_pushL (y := X) 0 E_ints (by with_unfolding_all rfl) (by with_unfolding_all rfl) (hS4) (by with_unfolding_all rfl) cIntO ⟨rfl, rfl⟩ (by first | with_unfolding_all rfl | simp) (by with_unfolding_all rfl) (by first | omega | (simp; omega)) (by first | omega | (simp; omega)) ?_); intro v5 w5 hS5); have q5 := (hS5.blk 3 rfl).1) | (with_reducible refine wpList_ldS (n := 4) (us := mC m ad cap) A_mach (by kernel_rfl) (by with_unfolding_all rfl) (by with_unfolding_all rfl) (by assumption) (by with_unfolding_all rfl) (by with_unfolding_all rfl) ?_))
       refine (HC.out _ (hR.below hS5.b)).mono ?_
       rintro e w6 ⟨rfl, b6⟩
       have hS6 := hS5.mono b6
       obtain ⟨a5, c5, e5, _⟩ := hS6.slice 0 rfl
       have hl5 : lenV v5 = j + 1 := by rw [e5]; show (orbK p k j ++ [X]).length = j + 1; rw [List.length_append, HOL.out]; rfl
       clear e5
       have HL5 := hid hl5
       clear hl5
       go_wp2_with fail
       have hl5 := HL5.out
       refine ⟨⟨j + 1, n' + 1, fun x => if x = X then true else g x, by omega, rfl, hl5, by omega, ?_, by rw [HSU.out]; exact hS6⟩, by rw [hl5, HLV.out]; omega⟩
       intro x h0 h1
       rw [HSU.out]
       by_cases e : x = X
       ·simp [e]
       ·simp only [e, if_false]
        rw [HGS.out x h0 h1]
        simp [e]
      ·have hjj : j = d := by omega
       subst hjj
       have hxd : itP p k j = k := HD.out.back
       have hmem : itP p k j ∈ orbK p k j := by rw [hxd]; exact List.mem_map.2 ⟨0, by simp [hd0], rfl⟩
       rw [decide_eq_true hmem, Bool.or_true] at hat
       have HAT := hid hat; have HXD := hid hxd
       clear hat hmem
       obtain ⟨al, cl, rfl, _⟩ := hSq.slice 0 rfl
       rw [← hX] at hXI HAT HXD ⊢
       go_wp2_with (first | ((with_reducible refine wpList_lookB (by with_unfolding_all rfl) (by with_unfolding_all rfl) (hmB) (hXI) (by with_unfolding_all rfl) ?_); rw [HAT.out]) | ((with_reducible refine wpList_pushL (y := ((al, (orbK p k j).length, cl) : SlH)) 1 E_sls (by with_unfolding_all rfl) (by with_unfolding_all rfl) (hSq) (by with_unfolding_all rfl) cSlO ⟨rfl, rfl⟩ (by first | with_unfolding_all rfl | simp) (by with_unfolding_all rfl) (by first | omega | (simp; omega)) (by first | omega | (simp; omega)) ?_); intro v4 w4 hP))
       refine ⟨⟨k + 1, n', g, qs ++ [((al, (orbK p k j).length, cl), orbK p k j)], by omega, by go_num, by omega, ?_, ?_, ?_⟩, by simp [intOf]; omega⟩
       ·intro x h0 h1
        rw [HGS.out x h0 h1, cycK_out HIN.out, orb_eq HD.out]
        simp [orbK]
       ·rw [List.map_append, HQ.out, cycK_out HIN.out, orb_eq HD.out]; rfl
       ·have hP2 := SL.pickA (K := [_, _, _, _]) (M := qs.map inP) hP [1, 2, 3, 0] (by decide) (by simp) [_, _, _, _] rfl
        refine hP2.perm ?_
        rw [List.map_append, List.map_append]
        refine List.Perm.cons _ (List.Perm.cons _ (List.Perm.cons _ ?_))
        exact List.perm_append_comm (l₁ := [_])
   ·have hkn : k = N := by omega
    subst hkn
    go_wp2_with fail
    go_ret2
    refine ⟨_, qs, rfl, HQ.out, ?_⟩
    exact (SL.comm (K := [_]) (L := qs.map inP) (SL.pickA (K := [_, _, _]) (M := qs.map inP) hSL [0] (by decide) (by simp) [_] rfl)).comm
 ·obtain ⟨E, hE⟩ : ∃ E, E = macE m := ⟨_, rfl⟩
  rw [if_neg he]
  rw [← hE] at HK he ⊢
  have hne : (E != 0) = true := by simpa using he
  have HC := hid HK
  clear HK he hE
  go_enter Tryz.func13, Tryz.ntmps13
  go_wp2_with fail
  refine (HC.out _ R1).mono ?_
  rintro e w1 ⟨rfl, b1⟩
  have hS1 := (hS.mono b1).nilS (α := SlH) (c := cSl) (sz := 1) (e := 22) cSlS
  go_wp2_with fail
  go_ret2
  exact ⟨_, [], rfl, rfl, hS1.pick [0] (by decide) _ rfl⟩
end Go.Proofs.YtbchpkmcpplidaaGreatDoor

namespace Go.Proofs.YtbchpkmcpplidaaGreatDoor
open Go.RowKit
set_option maxHeartbeats 8000000
set_option maxRecDepth 100000

theorem cloneI_any (a : Option Addr) (cap : Nat) (l : List Int) (w : World) (hS : Ints w a cap l) (hsm : l.length ≤ 1048576) :
  Calls Tryz.prog 80 #[.slice a l.length cap] w fun r w' => ∃ v, r = .returned v ∧ OwnI w.heap.size w' v l ∧ Below w.heap.size w w' := by
 have hcap := hS.le
 have hm := hS.max
 have heq := fun (w : World) (a : Option Addr) (n c : Nat) => Lib.run_eql_slice_nil (P := Tryz.prog) w 22 3 a n c 0 0 Tryz.underlying22
 cases a with
 | none =>
  have h0 : cap = 0 := hS.2.2.2.1 rfl
  have hl : l = [] := by
   cases l with
   | nil => rfl
   | cons x r => simp at hcap; omega
  subst hl
  go_enter Tryz.func80, Tryz.ntmps80
  go_wp2_with fail
  go_ret
  exact ⟨_, rfl, own_nil cIntS, Below.refl _ _⟩
 | some b =>
  go_enter Tryz.func80, Tryz.ntmps80
  go_wp2_with ((with_reducible refine wpList_app (B := w.heap.size) (l := []) (ys := l) E_ints (by with_unfolding_all rfl) (by with_unfolding_all rfl) (own_made0 cIntS w rfl (Nat.le_refl _)) (hS.alloc _) cIntO (by simp; omega) (by simp) (by simp; omega) ?_); intro v1 w1 ho1 hg1 _)
  go_ret
  refine ⟨v1, rfl, ho1, ?_⟩
  exact (bal (Below.refl _ _) _).grown hg1 (by simp) (fun k hk => by cases hk; exact Nat.le_refl _)

/-- the machine with the opposite turn. -/
def turnMac (m : MacV) : MacV := ⟨m.ring, m.gears, -m.turn, m.sw⟩
theorem mturned_any (m : MacV) (ad : Option Addr) (cap : Nat) (w : World) (hR : Ints w ad cap m.sw) (ht : m.turn = 1 ∨ m.turn = -1) (hs : m.sw.length ≤ 16) :
  Calls Tryz.prog 104 #[mV m ad cap] w fun r w' => ∃ a c, r = .returned (mV (turnMac m) a c) ∧ OwnI w.heap.size w' (.slice a m.sw.length c) m.sw ∧ Below w.heap.size w w' := by
 have hcap := hR.le
 have hmx := hR.max
 have hS := ((SL.nil w).box (.cells (mC m ad cap) 24)).box (.cells #[.bool false, .int .i64 0, .int .i64 0, .slice none 0 0] 24)
 simp only [World.size_alloc] at hS
 have q1 := (hS.blk 1 rfl).1
 have k0 := hS.cell 1 rfl 0 rfl
 have k1 := hS.cell 1 rfl 1 rfl
 have k2 := hS.cell 1 rfl 2 rfl
 have k3 := hS.cell 1 rfl 3 rfl
 have hb := hS.b
 have hw : IntKind.i64.wrap (-m.turn) = -m.turn := IntWalk.i64_in _ (by omega)
 have CL := fun w h => cloneI_any ad cap m.sw w h (by omega)
 have HC := hid CL
 clear CL
 go_enter Tryz.func104, Tryz.ntmps104
 go_wp2_with fail
 obtain ⟨W, hW⟩ : ∃ W, W = (w.alloc (.cells (mC m ad cap) 24)).alloc (.cells #[.bool false, .int .i64 0, .int .i64 0, .slice none 0 0] 24) := ⟨_, rfl⟩
 rw [← hW] at hS q1 k0 k1 k2 k3 hb ⊢
 clear hW
 have kc : ∀ (V : World), (Below w.heap.size w V ∧ V.heap[w.heap.size]? = some (.cells (mC m ad cap) 24)) → ∀ j u, (mC m ad cap)[j]? = some u → V.cell? ⟨w.heap.size, j, none⟩ = some u := by
  rintro V ⟨_, h⟩ j u hu
  simp [World.cell?, h, hu]
 refine wp_regionK (C := (fun V => Below w.heap.size w V ∧ V.heap[w.heap.size]? = some (.cells (mC m ad cap) 24))) [0, 1, 2, 3, 4, 5, 6, 7, 8] [_, _, _, _, _, _, _, _, _] 3 (by simp only [List.map_cons, List.map_nil, List.getElem?_toArray]; rfl) rfl (by kernel_rfl) (by kernel_rfl) (by kernel_rfl) (⟨hb.drew, q1⟩) ?_
 refine ⟨_, yieldsK_val (by with_unfolding_all rfl) (fun w' => by with_unfolding_all exact rfl), ?_⟩
 go_frame
 refine ⟨_, yieldsK_cellC F_boolM (fun V h => kc V h 0 _ rfl) (by with_unfolding_all rfl) (by with_unfolding_all rfl), ?_⟩
 go_frame
 refine ⟨_, yieldsK_val (by with_unfolding_all rfl) (fun w' => by with_unfolding_all exact rfl), ?_⟩
 go_frame
 refine ⟨_, yieldsK_cellC F_int (fun V h => kc V h 1 _ rfl) (by with_unfolding_all rfl) (by with_unfolding_all rfl), ?_⟩
 go_frame
 refine ⟨_, yieldsK_val (by with_unfolding_all rfl) (fun w' => by with_unfolding_all exact rfl), ?_⟩
 go_frame
 refine ⟨_, yieldsK_cellC F_int (fun V h => kc V h 2 _ rfl) (by with_unfolding_all rfl) (by with_unfolding_all rfl), ?_⟩
 go_frame
 refine ⟨.int .i64 (-m.turn), yieldsK_val (by with_unfolding_all rfl) (fun w' => by first | (go_simp; done) | (go_simp; rfl)), ?_⟩
 go_frame
 refine ⟨_, yieldsK_val (by with_unfolding_all rfl) (fun w' => by with_unfolding_all exact rfl), ?_⟩
 go_frame
 refine ⟨_, yieldsK_cellC F_sliceM (fun V h => kc V h 3 _ rfl) (by with_unfolding_all rfl) (by with_unfolding_all rfl), ?_⟩
 go_frame
 unfold wpPureK
 have hVd : ({ W with drawn := W.drawn + 1 } : World) = W.drew := rfl
 rw [hVd]
 have b2 := hb.drew
 refine wpAnyC_on [9] (by kernel_rfl) (by simp) ?_
 simp only [List.forall_mem_cons, List.not_mem_nil, false_implies, implies_true, and_true]
 refine wpOp_call (f := 80) (args := #[.slice ad m.sw.length cap]) (by rw [List.getElem?_toArray]; rfl) (by with_unfolding_all rfl) (by first | (go_simp; done) | (simp [execOp, Act.eval, Result.andThen]; done) | (simp [execOp, Act.eval, Result.andThen]; rfl)) ?_
 refine (HC.out _ (hR.below b2)).mono ?_
 rintro e V1 ⟨v1, rfl, hO1, hb1⟩
 obtain ⟨a1, cap1, rfl, hr1, hf1, _⟩ := hO1.reps
 have hS2 := hS.drew.call (SL.ofOwn hO1 hb1)
 simp only [List.cons_append, List.nil_append] at hS2
 refine ⟨_, rfl, ⟨hS2.b, (hS2.blk 2 rfl).1⟩, ?_⟩
 go_frame
 refine wpAnyC_on [10] (by kernel_rfl) (by simp) ?_
 simp only [List.forall_mem_cons, List.not_mem_nil, false_implies, implies_true, and_true]
 refine wpOp_value (v := .agg #[.bool m.ring, .int .i64 m.gears, .int .i64 (-m.turn), .slice a1 m.sw.length cap1]) (w' := V1) (by rw [List.getElem?_toArray]; rfl) (by with_unfolding_all rfl) (by first | (go_simp; done) | (go_simp; rfl) | (simp [execOp, Act.eval, Result.andThen]; done)) ?_
 refine ⟨⟨hS2.b, (hS2.blk 2 rfl).1⟩, ?_⟩
 go_frame
 refine wpAnyC_on [11] (by kernel_rfl) (by simp) ?_
 simp only [List.forall_mem_cons, List.not_mem_nil, false_implies, implies_true, and_true]
 refine wpOp_of_list (by rw [List.getElem?_toArray]; rfl) ?_
 ((with_reducible refine wpList_stoR (us := #[.bool m.ring, .int .i64 m.gears, .int .i64 (-m.turn), .slice a1 m.sw.length cap1]) 1 (by with_unfolding_all rfl) (by with_unfolding_all rfl) (hS2) (by with_unfolding_all rfl) (by kernel_rfl) (by with_unfolding_all rfl) (by with_unfolding_all rfl) ?_); intro w3 hS3)
 refine ⟨⟨hS3.b, (hS3.blk 2 rfl).1⟩, ?_⟩
 go_frame
 refine wpAnyC_rest [] [] rfl rfl (by kernel_rfl) (by kernel_rfl) (by kernel_rfl) ⟨hS3.b, (hS3.blk 2 rfl).1⟩ ?_
 unfold wpPure
 refine of_wpList_nil (P := Tryz.prog) (ops := #[]) ?_
 go_wp2_with fail
 exact bodyPost_ret (results_cell rfl rfl A_mach (by kernel_rfl) (hS3.blk 1 rfl).1) rfl ⟨a1, cap1, rfl, hS3.own 0 rfl, hS3.b⟩
end Go.Proofs.YtbchpkmcpplidaaGreatDoor

namespace Go.Proofs.YtbchpkmcpplidaaGreatDoor
open Go.RowKit
set_option maxHeartbeats 8000000
set_option maxRecDepth 100000

/-- mapped with a function of the program, of which the places are given. -/
theorem mappedR_any  (g : Int → Int) (al : Option Addr) (cl : Nat) (l : List Int) (w : World) (hL : Ints w al cl l) (hn : l.length ≤ 1048576)
  (HF : ∀ x ∈ l, ∀ w', Below w.heap.size w w' → Calls Tryz.prog 105 #[.int .i64 x] w' fun r w'' => r = .returned (.int .i64 (g x)) ∧ Below w'.heap.size w' w'') :
  Calls Tryz.prog 73 #[.slice al l.length cl, .func (.func 105) #[] #[]] w fun r w' => ∃ v, r = .returned v ∧ OwnI w.heap.size w' v (l.map g) ∧ Below w.heap.size w w' := by
 have hcap := hL.le
 have hmx := hL.max
 have H := hid HF
 clear HF
 have hS := (SL.nil w).nilS (α := Int) (e := 3) cIntS
 go_enter Tryz.func73, Tryz.ntmps73
 go_wp2_with fail
 go_loopw [5, 10] (fun v i wr => ∃ k : Nat, k ≤ l.length ∧ i = .int .i64 k ∧ SL w.heap.size w wr [pOwn cInt 1 3 v ((l.take k).map g)]) (fun _ i _ => l.length - (intOf i).toNat)
 case atStart => exact ⟨0, by omega, rfl, hS⟩
 case round =>
  clear hS
  obtain ⟨k, hk, rfl, hSr⟩ := hrel
  have hLr := hL.below hSr.b
  by_cases hlt : k < l.length
  ·have hmem := atD_mem hlt
   have ht := take_snoc hlt
   have hlen : ((l.take k).map g).length ≤ 1048576 := by simp; omega
   obtain ⟨x, hx⟩ : ∃ x, x = atD 0 l k := ⟨_, rfl⟩
   rw [← hx] at hmem ht
   have HX := hid hx; have HT := hid ht
   clear hx ht
   go_wp2_with ((with_reducible refine wpList_idx _ 0 E_ints F_int cInt1 (by with_unfolding_all rfl) (by with_unfolding_all rfl) (hLr) (by first | omega | (simp; done)) (by first | omega | (simp; done)) (fun _ => by with_unfolding_all rfl) (fun _ => ?_)); rw [← HX.out])
   refine (H.out x hmem _ hSr.b).mono ?_
   rintro e w1 ⟨rfl, b1⟩
   have hS1 := hSr.mono b1
   go_wp2_with ((with_reducible refine wpList_pushL (y := (g x)) 0 E_ints (by with_unfolding_all rfl) (by with_unfolding_all rfl) (hS1) (by with_unfolding_all rfl) cIntO ⟨rfl, rfl⟩ (by first | with_unfolding_all rfl | simp) (by with_unfolding_all rfl) (by first | omega | (simp; omega)) (by first | omega | (simp; omega)) ?_); intro v2 w2 hS2)
   exact ⟨⟨k + 1, by omega, by go_num, by rw [HT.out, List.map_append]; exact hS2⟩, by simp [intOf]; omega⟩
  ·have hkk : k = l.length := by omega
   subst hkk
   rw [List.take_length] at hSr
   go_wp2_with fail
   go_ret
   exact ⟨_, rfl, hSr.own 0 rfl, hSr.b⟩

/-- mapped with a function of the program, of which the places are given. -/
theorem mappedO_any (rv : Value) (g : Int → Int) (al : Option Addr) (cl : Nat) (l : List Int) (w : World) (hL : Ints w al cl l) (hn : l.length ≤ 1048576)
  (HF : ∀ x ∈ l, ∀ w', Below w.heap.size w w' → Calls Tryz.prog 106 #[rv, .int .i64 x] w' fun r w'' => r = .returned (.int .i64 (g x)) ∧ Below w'.heap.size w' w'') :
  Calls Tryz.prog 73 #[.slice al l.length cl, .func (.func 106) #[rv] #[]] w fun r w' => ∃ v, r = .returned v ∧ OwnI w.heap.size w' v (l.map g) ∧ Below w.heap.size w w' := by
 have hcap := hL.le
 have hmx := hL.max
 have H := hid HF
 clear HF
 have hS := (SL.nil w).nilS (α := Int) (e := 3) cIntS
 go_enter Tryz.func73, Tryz.ntmps73
 go_wp2_with fail
 go_loopw [5, 10] (fun v i wr => ∃ k : Nat, k ≤ l.length ∧ i = .int .i64 k ∧ SL w.heap.size w wr [pOwn cInt 1 3 v ((l.take k).map g)]) (fun _ i _ => l.length - (intOf i).toNat)
 case atStart => exact ⟨0, by omega, rfl, hS⟩
 case round =>
  clear hS
  obtain ⟨k, hk, rfl, hSr⟩ := hrel
  have hLr := hL.below hSr.b
  by_cases hlt : k < l.length
  ·have hmem := atD_mem hlt
   have ht := take_snoc hlt
   have hlen : ((l.take k).map g).length ≤ 1048576 := by simp; omega
   obtain ⟨x, hx⟩ : ∃ x, x = atD 0 l k := ⟨_, rfl⟩
   rw [← hx] at hmem ht
   have HX := hid hx; have HT := hid ht
   clear hx ht
   go_wp2_with ((with_reducible refine wpList_idx _ 0 E_ints F_int cInt1 (by with_unfolding_all rfl) (by with_unfolding_all rfl) (hLr) (by first | omega | (simp; done)) (by first | omega | (simp; done)) (fun _ => by with_unfolding_all rfl) (fun _ => ?_)); rw [← HX.out])
   refine (H.out x hmem _ hSr.b).mono ?_
   rintro e w1 ⟨rfl, b1⟩
   have hS1 := hSr.mono b1
   go_wp2_with ((with_reducible refine wpList_pushL (y := (g x)) 0 E_ints (by with_unfolding_all rfl) (by with_unfolding_all rfl) (hS1) (by with_unfolding_all rfl) cIntO ⟨rfl, rfl⟩ (by first | with_unfolding_all rfl | simp) (by with_unfolding_all rfl) (by first | omega | (simp; omega)) (by first | omega | (simp; omega)) ?_); intro v2 w2 hS2)
   exact ⟨⟨k + 1, by omega, by go_num, by rw [HT.out, List.map_append]; exact hS2⟩, by simp [intOf]; omega⟩
  ·have hkk : k = l.length := by omega
   subst hkk
   rw [List.take_length] at hSr
   go_wp2_with fail
   go_ret
   exact ⟨_, rfl, hSr.own 0 rfl, hSr.b⟩

/-- mapped with a function of the program, of which the places are given. -/
theorem mappedN_any (rv : Value) (g : Int → Int) (al : Option Addr) (cl : Nat) (l : List Int) (w : World) (hL : Ints w al cl l) (hn : l.length ≤ 1048576)
  (HF : ∀ x ∈ l, ∀ w', Below w.heap.size w w' → Calls Tryz.prog 63 #[rv, .int .i64 x] w' fun r w'' => r = .returned (.int .i64 (g x)) ∧ Below w'.heap.size w' w'') :
  Calls Tryz.prog 73 #[.slice al l.length cl, .func (.func 63) #[rv] #[]] w fun r w' => ∃ v, r = .returned v ∧ OwnI w.heap.size w' v (l.map g) ∧ Below w.heap.size w w' := by
 have hcap := hL.le
 have hmx := hL.max
 have H := hid HF
 clear HF
 have hS := (SL.nil w).nilS (α := Int) (e := 3) cIntS
 go_enter Tryz.func73, Tryz.ntmps73
 go_wp2_with fail
 go_loopw [5, 10] (fun v i wr => ∃ k : Nat, k ≤ l.length ∧ i = .int .i64 k ∧ SL w.heap.size w wr [pOwn cInt 1 3 v ((l.take k).map g)]) (fun _ i _ => l.length - (intOf i).toNat)
 case atStart => exact ⟨0, by omega, rfl, hS⟩
 case round =>
  clear hS
  obtain ⟨k, hk, rfl, hSr⟩ := hrel
  have hLr := hL.below hSr.b
  by_cases hlt : k < l.length
  ·have hmem := atD_mem hlt
   have ht := take_snoc hlt
   have hlen : ((l.take k).map g).length ≤ 1048576 := by simp; omega
   obtain ⟨x, hx⟩ : ∃ x, x = atD 0 l k := ⟨_, rfl⟩
   rw [← hx] at hmem ht
   have HX := hid hx; have HT := hid ht
   clear hx ht
   go_wp2_with ((with_reducible refine wpList_idx _ 0 E_ints F_int cInt1 (by with_unfolding_all rfl) (by with_unfolding_all rfl) (hLr) (by first | omega | (simp; done)) (by first | omega | (simp; done)) (fun _ => by with_unfolding_all rfl) (fun _ => ?_)); rw [← HX.out])
   refine (H.out x hmem _ hSr.b).mono ?_
   rintro e w1 ⟨rfl, b1⟩
   have hS1 := hSr.mono b1
   go_wp2_with ((with_reducible refine wpList_pushL (y := (g x)) 0 E_ints (by with_unfolding_all rfl) (by with_unfolding_all rfl) (hS1) (by with_unfolding_all rfl) cIntO ⟨rfl, rfl⟩ (by first | with_unfolding_all rfl | simp) (by with_unfolding_all rfl) (by first | omega | (simp; omega)) (by first | omega | (simp; omega)) ?_); intro v2 w2 hS2)
   exact ⟨⟨k + 1, by omega, by go_num, by rw [HT.out, List.map_append]; exact hS2⟩, by simp [intOf]; omega⟩
  ·have hkk : k = l.length := by omega
   subst hkk
   rw [List.take_length] at hSr
   go_wp2_with fail
   go_ret
   exact ⟨_, rfl, hSr.own 0 rfl, hSr.b⟩

def mirM (s : Int) : Int := if s % 4 = 1 then s + 2 else if s % 4 = 3 then s - 2 else s
theorem mir1_any (s : Int) (w : World) (h0 : 0 ≤ s) (h1 : s < 64) :
  Calls Tryz.prog 105 #[.int .i64 s] w fun r w' => r = .returned (.int .i64 (mirM s)) ∧ Below w.heap.size w w' := by
 obtain ⟨q, hq⟩ : ∃ q, q = s % 4 := ⟨_, rfl⟩
 have htm : s.tmod 4 = q := by rw [hq, Int.tmod_eq_emod_of_nonneg h0]
 have hm : mirM s = if q = 1 then s + 2 else if q = 3 then s - 2 else s := by unfold mirM; rw [hq]
 by_cases c1 : q = 1
 ·have d1 : (q == 1) = true := by simpa using c1
  have hv : mirM s = s - 1 + 3 := by rw [hm, if_pos c1]; omega
  have HV := hid hv
  clear hm hv hq c1
  go_enter Tryz.func105, Tryz.ntmps105
  go_wp2_with fail
  go_ret
  exact ⟨by rw [HV.out]; rfl, Below.refl _ _⟩
 have d1 : (q == 1) = false := by simpa using c1
 by_cases c3 : q = 3
 ·have d3 : (q == 3) = true := by simpa using c3
  have hv : mirM s = s - 3 + 1 := by rw [hm, if_neg c1, if_pos c3]; omega
  have HV := hid hv
  have hs3 : 3 ≤ s := by omega
  clear hm hv hq c1 c3
  go_enter Tryz.func105, Tryz.ntmps105
  go_wp2_with fail
  go_ret
  exact ⟨by rw [HV.out]; rfl, Below.refl _ _⟩
 ·have d3 : (q == 3) = false := by simpa using c3
  have hv : mirM s = s := by rw [hm, if_neg c1, if_neg c3]
  have HV := hid hv
  clear hm hv hq c1 c3
  go_enter Tryz.func105, Tryz.ntmps105
  go_wp2_with fail
  go_ret
  exact ⟨by rw [HV.out]; rfl, Below.refl _ _⟩
end Go.Proofs.YtbchpkmcpplidaaGreatDoor

namespace Go.Proofs.YtbchpkmcpplidaaGreatDoor
open Go.RowKit
set_option maxHeartbeats 8000000
set_option maxRecDepth 100000

def noM : MacV := ⟨false, 0, 0, []⟩
theorem results_cellSS {P : Program} {w : World} {fn : Func} {tmps : Array Value} {t T k s s2 : Nat} {us : Array Value} {T' : TypeId} {fr : Nat × Nat} {v v2 : Value} (h : fn.results = #[.cell t T, .tmp s, .tmp s2]) (ht : tmps.getD t undef = .pointer (some ⟨k, 0, none⟩)) (hs : tmps.getD s undef = v) (hs2 : tmps.getD s2 undef = v2) (hu : Aggr P T) (hz : (P.info? T).map (·.size) = some us.size) (hb : w.heap[k]? = some (.cells us T' fr)) :
  (results fn tmps).run P w = .ok (.tuple #[.agg us, v, v2]) w := by
 obtain ⟨d, hd, hdd⟩ := hu
 have := run_loadVar_row (P := P) w k T' T us fr d hb hd (by cases d <;> first | exact hdd | rfl | cases hdd) hz
 simp only [Array.getD_eq_getD_getElem?] at ht hs hs2
 simp [results, h, ht, hs, hs2, asAddr, this]

theorem mMirrored_any (m : MacV) (ad : Option Addr) (cap : Nat) (al : Option Addr) (cl : Nat) (l : List Int) (w : World) (hR : Ints w ad cap m.sw) (hL : Ints w al cl l) (HK : ChkL m ad cap al cl l) :
  Calls Tryz.prog 52 #[mV m ad cap, .slice al l.length cl] w fun r w' => ∃ a c v, r = .returned (.tuple #[mV (if loadE m l = 0 then turnMac m else noM) a c, v, .int .i64 (loadE m l)]) ∧ SL w.heap.size w w' [pOwn cInt 1 3 (.slice a (if loadE m l = 0 then m.sw else []).length c) (if loadE m l = 0 then m.sw else []), pOwn cInt 1 3 v (if loadE m l = 0 then l.map mirM else [])] := by
 have hS := ((SL.nil w).box (.cells (mC m ad cap) 24)).box (.cells #[.bool false, .int .i64 0, .int .i64 0, .slice none 0 0] 24)
 simp only [World.size_alloc] at hS
 have R1 := hR.below hS.b
 have L1 := hL.below hS.b
 unfold ChkL at HK
 by_cases he : loadE m l = 0
 ·have hok := loadE_zero he
  have hhi := hok.ok.hi
  have hfew := hok.few
  have CT := fun w h => mturned_any m ad cap w h hok.ok.turn (by have := hok.ok.many; omega)
  have CM := fun w h => mappedR_any mirM al cl l w h (by omega) (fun x hx w' hw' => mir1_any x w' (hok.rng x hx).1 (by have := (hok.rng x hx).2; omega))
  rw [if_pos he, if_pos he, if_pos he]
  rw [he] at HK ⊢
  have HC := hid HK; have HT := hid CT; have HM := hid CM
  clear HK CT CM hok he
  go_enter Tryz.func52, Tryz.ntmps52
  go_wp2_with fail
  refine (HC.out _ R1 L1).mono ?_
  rintro e w1 ⟨rfl, b1⟩
  have hS1 := hS.mono b1
  have q1 := (hS1.blk 1 rfl).1
  go_wp2_with (with_reducible refine wpList_ldS (n := 4) (us := mC m ad cap) A_mach (by kernel_rfl) (by with_unfolding_all rfl) (by with_unfolding_all rfl) (by assumption) (by with_unfolding_all rfl) (by with_unfolding_all rfl) ?_)
  refine (HT.out _ (hR.below hS1.b)).mono ?_
  rintro e w2 ⟨a, c, rfl, ho, b2⟩
  have hS2 := hS1.call (SL.ofOwn ho b2)
  simp only [List.cons_append, List.nil_append] at hS2
  clear q1
  go_wp2_with fail
  refine (HM.out _ (hL.below hS2.b)).mono ?_
  rintro e w3 ⟨v, rfl, hv, b3⟩
  have hS3 := hS2.call (SL.ofOwn hv b3)
  simp only [List.cons_append, List.nil_append] at hS3
  go_wp2_with ((with_reducible refine wpList_stoR (us := #[.bool m.ring, .int .i64 m.gears, .int .i64 (-m.turn), .slice a m.sw.length c]) 2 (by with_unfolding_all rfl) (by with_unfolding_all rfl) (hS3) (by with_unfolding_all rfl) (by kernel_rfl) (by with_unfolding_all rfl) (by with_unfolding_all rfl) ?_); intro w4 hS4)
  exact bodyPost_ret (results_cellSS rfl rfl rfl rfl A_mach (by kernel_rfl) (hS4.blk 2 rfl).1) rfl ⟨a, c, v, rfl, hS4.pick [1, 0] (by decide) _ rfl⟩
 ·obtain ⟨E, hE⟩ : ∃ E, E = loadE m l := ⟨_, rfl⟩
  rw [if_neg he, if_neg he, if_neg he]
  rw [← hE] at HK he ⊢
  have hne : (E != 0) = true := by simpa using he
  have HC := hid HK
  clear HK hE he
  go_enter Tryz.func52, Tryz.ntmps52
  go_wp2_with fail
  refine (HC.out _ R1 L1).mono ?_
  rintro e w1 ⟨rfl, b1⟩
  have hS1 := hS.mono b1
  go_wp2_with ((with_reducible refine wpList_stoR (us := #[.bool false, .int .i64 0, .int .i64 0, .slice none 0 0]) 0 (by with_unfolding_all rfl) (by with_unfolding_all rfl) (hS1) (by with_unfolding_all rfl) (by kernel_rfl) (by with_unfolding_all rfl) (by with_unfolding_all rfl) ?_); intro w4 hS4)
  have hS5 := (hS4.nilS (α := Int) (c := cInt) (sz := 1) (e := 3) cIntS).nilS (α := Int) (c := cInt) (sz := 1) (e := 3) cIntS
  exact bodyPost_ret (results_cellSS rfl rfl rfl rfl A_mach (by kernel_rfl) (hS4.blk 0 rfl).1) rfl ⟨none, 0, _, rfl, hS5.pick [1, 0] (by decide) _ rfl⟩
end Go.Proofs.YtbchpkmcpplidaaGreatDoor

namespace Go.Proofs.YtbchpkmcpplidaaGreatDoor
open Go.RowKit
set_option maxHeartbeats 8000000
set_option maxRecDepth 100000

section
variable {P : Program} {ops : Array Oper} {a : Act} {ty : TypeId} {p : String} {af : Array Edge} {g : Option (Nat × Bool)} {d : Tmp} {C : World → Prop}
theorem yieldsK_blkC {e : TypeId} {s : Operand} {b n : Nat} {us : Array Value} {T : TypeId} {fr : Nat × Nat} (hF : Aggr P e) (hn : (P.info? e).map (·.size) = some n) (hb : ∀ w, C w → w.heap[b]? = some (.cells us T fr)) (hz : us.size = n)
   (hg : Region.wanted (⟨some d, .load e s, ty, p, af, g⟩ : Oper) (yielded ops a.tmps) = true) (hs : a.eval s = .pointer (some ⟨b, 0, none⟩)) : YieldsK P ops C ⟨some d, .load e s, ty, p, af, g⟩ (.agg us) a := by
 obtain ⟨i, hi, hs2⟩ : ∃ i, P.info? e = some i ∧ i.size = n := by
  cases hi : P.info? e with
  | none => rw [hi] at hn; cases hn
  | some i => rw [hi] at hn; exact ⟨i, rfl, by simpa using hn⟩
 refine .inl ⟨hg, fun w' hw' => ?_⟩
 have hb2 := hb w' hw'
 have := run_loadAt_agg (a := ⟨b, 0, none⟩) w' hF hi (cs := us.toList) (by simp [hs2, hz]) (fun j v hj => by
  have hj2 : us[j]? = some v := by simpa using hj
  rw [Addr.add_z]
  simp [World.cell?, hb2, hj2])
 simp [execOp, hs, this, Result.andThen]
end

theorem mBackwards_any (m : MacV) (ad : Option Addr) (cap : Nat) (al : Option Addr) (cl : Nat) (l : List Int) (w : World) (hR : Ints w ad cap m.sw) (hL : Ints w al cl l) (HK : ChkL m ad cap al cl l) :
  Calls Tryz.prog 53 #[mV m ad cap, .slice al l.length cl] w fun r w' => ∃ a c v, r = .returned (.tuple #[mV (if loadE m l = 0 then turnMac m else noM) a c, v, .int .i64 (loadE m l)]) ∧ SL w.heap.size w w' [pOwn cInt 1 3 (.slice a (if loadE m l = 0 then m.sw else []).length c) (if loadE m l = 0 then m.sw else []), pOwn cInt 1 3 v (if loadE m l = 0 then l.map (overM m) else [])] := by
 have hS := ((SL.nil w).box (.cells (mC m ad cap) 24)).box (.cells #[.bool false, .int .i64 0, .int .i64 0, .slice none 0 0] 24)
 simp only [World.size_alloc] at hS
 have R1 := hR.below hS.b
 have L1 := hL.below hS.b
 unfold ChkL at HK
 by_cases he : loadE m l = 0
 ·have hok := loadE_zero he
  have hhi := hok.ok.hi
  have hfew := hok.few
  have CT := fun w h => mturned_any m ad cap w h hok.ok.turn (by have := hok.ok.many; omega)
  have CM := fun w h (h2 : Ints w ad cap m.sw) => mappedO_any (mV m ad cap) (overM m) al cl l w h (by omega) (fun x hx w' hw' => over_any m ad cap x w' (h2.below hw') hhi (hok.rng x hx).1 (hok.rng x hx).2)
  rw [if_pos he, if_pos he, if_pos he]
  rw [he] at HK ⊢
  have HC := hid HK; have HT := hid CT; have HM := hid CM
  clear HK CT CM hok he
  go_enter Tryz.func53, Tryz.ntmps53
  go_wp2_with fail
  refine (HC.out _ R1 L1).mono ?_
  rintro e w1 ⟨rfl, b1⟩
  have hS1 := hS.mono b1
  have q1 := (hS1.blk 1 rfl).1
  go_wp2_with fail
  refine wp_regionK (C := (fun V => Below w.heap.size w V ∧ V.heap[w.heap.size]? = some (.cells (mC m ad cap) 24))) [0, 2, 3, 4] [_, _, _, _] 5 (by simp only [List.map_cons, List.map_nil, List.getElem?_toArray]; rfl) rfl (by kernel_rfl) (by kernel_rfl) (by kernel_rfl) (⟨hS1.b.drew, q1⟩) ?_
  refine ⟨_, yieldsK_blkC (n := 4) A_mach (by kernel_rfl) (fun V h => h.2) rfl (by with_unfolding_all rfl) (by with_unfolding_all rfl), ?_⟩
  go_frame
  refine ⟨_, yieldsK_val (by with_unfolding_all rfl) (fun w' => by with_unfolding_all exact rfl), ?_⟩
  go_frame
  refine ⟨_, yieldsK_blkC (n := 4) A_mach (by kernel_rfl) (fun V h => h.2) rfl (by with_unfolding_all rfl) (by with_unfolding_all rfl), ?_⟩
  go_frame
  refine ⟨.func (.func 106) #[mV m ad cap] #[], yieldsK_val (by with_unfolding_all rfl) (fun w' => by first | (go_simp; done) | (go_simp; rfl)), ?_⟩
  go_frame
  unfold wpPureK
  have hVd : ({ w1 with drawn := w1.drawn + 1 } : World) = w1.drew := rfl
  rw [hVd]
  have b2 := hS1.b.drew
  refine wpAnyC_on [1] (by kernel_rfl) (by simp) ?_
  simp only [List.forall_mem_cons, List.not_mem_nil, false_implies, implies_true, and_true]
  refine wpOp_call (f := 104) (args := #[mV m ad cap]) (by rw [List.getElem?_toArray]; rfl) (by with_unfolding_all rfl) (by first | (go_simp; done) | (simp [execOp, Act.eval, Result.andThen]; done) | (simp [execOp, Act.eval, Result.andThen]; rfl)) ?_
  refine (HT.out _ (hR.below b2)).mono ?_
  rintro e w2 ⟨a, c, rfl, ho, b3⟩
  have hS2 := hS1.drew.call (SL.ofOwn ho b3)
  simp only [List.cons_append, List.nil_append] at hS2
  refine ⟨_, rfl, ⟨hS2.b, (hS2.blk 2 rfl).1⟩, ?_⟩
  go_frame
  refine wpAnyC_on [5] (by kernel_rfl) (by simp) ?_
  simp only [List.forall_mem_cons, List.not_mem_nil, false_implies, implies_true, and_true]
  refine wpOp_call (f := 73) (args := #[.slice al l.length cl, .func (.func 106) #[mV m ad cap] #[]]) (by rw [List.getElem?_toArray]; rfl) (by with_unfolding_all rfl) (by first | (go_simp; done) | (simp [execOp, Act.eval, Result.andThen]; done) | (simp [execOp, Act.eval, Result.andThen]; rfl)) ?_
  refine (HM.out _ (hL.below hS2.b) (hR.below hS2.b)).mono ?_
  rintro e w3 ⟨v, rfl, hv, b4⟩
  have hS3 := hS2.call (SL.ofOwn hv b4)
  simp only [List.cons_append, List.nil_append] at hS3
  refine ⟨_, rfl, ⟨hS3.b, (hS3.blk 3 rfl).1⟩, ?_⟩
  go_frame
  refine wpAnyC_on [6] (by kernel_rfl) (by simp) ?_
  simp only [List.forall_mem_cons, List.not_mem_nil, false_implies, implies_true, and_true]
  refine wpOp_of_list (by rw [List.getElem?_toArray]; rfl) ?_
  ((with_reducible refine wpList_stoR (us := #[.bool m.ring, .int .i64 m.gears, .int .i64 (-m.turn), .slice a m.sw.length c]) 2 (by with_unfolding_all rfl) (by with_unfolding_all rfl) (hS3) (by with_unfolding_all rfl) (by kernel_rfl) (by with_unfolding_all rfl) (by with_unfolding_all rfl) ?_); intro w4 hS4)
  refine ⟨⟨hS4.b, (hS4.blk 3 rfl).1⟩, ?_⟩
  go_frame
  refine wpAnyC_rest [7, 8] [_, _] rfl (by simp only [List.map_cons, List.map_nil, List.getElem?_toArray]; rfl) (by kernel_rfl) (by kernel_rfl) (by kernel_rfl) (⟨hS4.b, (hS4.blk 3 rfl).1⟩) ?_
  repeat (refine ⟨_, .inl ⟨by with_unfolding_all rfl, fun w' _ => by with_unfolding_all exact rfl⟩, ?_⟩; go_frame)
  unfold wpPure
  refine of_wpList_nil (P := Tryz.prog) (ops := #[]) ?_
  go_wp2_with fail
  exact bodyPost_ret (results_cellSS rfl rfl rfl rfl A_mach (by kernel_rfl) (hS4.blk 2 rfl).1) rfl ⟨a, c, v, rfl, hS4.pick [1, 0] (by decide) _ rfl⟩
 ·obtain ⟨E, hE⟩ : ∃ E, E = loadE m l := ⟨_, rfl⟩
  rw [if_neg he, if_neg he, if_neg he]
  rw [← hE] at HK he ⊢
  have hne : (E != 0) = true := by simpa using he
  have HC := hid HK
  clear HK hE he
  go_enter Tryz.func53, Tryz.ntmps53
  go_wp2_with fail
  refine (HC.out _ R1 L1).mono ?_
  rintro e w1 ⟨rfl, b1⟩
  have hS1 := hS.mono b1
  go_wp2_with ((with_reducible refine wpList_stoR (us := #[.bool false, .int .i64 0, .int .i64 0, .slice none 0 0]) 0 (by with_unfolding_all rfl) (by with_unfolding_all rfl) (hS1) (by with_unfolding_all rfl) (by kernel_rfl) (by with_unfolding_all rfl) (by with_unfolding_all rfl) ?_); intro w4 hS4)
  have hS5 := (hS4.nilS (α := Int) (c := cInt) (sz := 1) (e := 3) cIntS).nilS (α := Int) (c := cInt) (sz := 1) (e := 3) cIntS
  exact bodyPost_ret (results_cellSS rfl rfl rfl rfl A_mach (by kernel_rfl) (hS4.blk 0 rfl).1) rfl ⟨none, 0, _, rfl, hS5.pick [1, 0] (by decide) _ rfl⟩
end Go.Proofs.YtbchpkmcpplidaaGreatDoor

namespace Go.Proofs.YtbchpkmcpplidaaGreatDoor
open Go.RowKit
set_option maxHeartbeats 8000000
set_option maxRecDepth 100000
theorem pairsAt_succ {l : List Int} {i j : Nat} (h : j < l.length) : pairsAt l i (j + 1) = pairsAt l i j ++ [(atD 0 l i, atD 0 l j)] := by
 unfold pairsAt
 rw [take_snoc h, List.map_append, List.append_assoc]
 rfl
theorem min_at (f : Int × Int → Int) {l : List Int} {i j : Nat} (h : j < l.length) : minF f (pairsAt l i (j + 1)) = if 0 ≤ f (atD 0 l i, atD 0 l j) ∧ (minF f (pairsAt l i j) < 0 ∨ f (atD 0 l i, atD 0 l j) < minF f (pairsAt l i j)) then f (atD 0 l i, atD 0 l j) else minF f (pairsAt l i j) := by
 rw [pairsAt_succ h, minF_snoc]
theorem ne_atI {l : List Int} (h : l.Nodup) {i j : Nat} (hi : i < l.length) (hj : j < l.length) (hij : j < i) : atD 0 l j ≠ atD 0 l i := by
 have ei : atD 0 l i = l[i] := by simp [atD, hi]
 have ej : atD 0 l j = l[j] := by simp [atD, hj]
 rw [ei, ej]
 intro e
 have := (List.getElem_inj h).1 e
 omega
theorem rNow_any (m : MacV) (ad : Option Addr) (cap : Nat) (al : Option Addr) (cl : Nat) (l : List Int) (w : World) (hL : Ints w al cl l) (hg0 : 1 ≤ m.gears) (hg : m.gears ≤ 16) (hl : ∀ x ∈ l, 0 ≤ x ∧ x < 4 * m.gears) (hn : l.length ≤ 64) (hnd : l.Nodup) :
  Calls Tryz.prog 39 #[mV m ad cap, .slice al l.length cl] w fun r w' => r = .returned (.int .i64 (nowM m l)) ∧ Below w.heap.size w w' := by
 have hcap := hL.le
 have hmx := hL.max
 have hS := (SL.nil w).box (.cells (mC m ad cap) 25)
 have HIN : Hid (∀ k : Nat, k < l.length → 0 ≤ atD 0 l k ∧ atD 0 l k < 4 * m.gears) := hid fun k hk => atD_in hl hk
 have HNE : Hid (∀ i j : Nat, i < l.length → j < i → atD 0 l j ≠ atD 0 l i) := hid fun i j hi hj => ne_atI hnd hi (by omega) hj
 have HOA : Hid (∀ (x : Int) w, 0 ≤ x → x < 4 * m.gears → _) := hid fun x w h0 h1 => rOther_any m ad cap x w hg0 hg h0 h1
 have HPA : Hid (∀ (x : Int) w, 0 ≤ x → x < 4 * m.gears → _) := hid fun x w h0 h1 => rPlace_any m ad cap x w hg h0 h1
 have HMA : Hid (∀ i j : Nat, j < l.length → _) := hid fun i j h => min_at (hereN m) (l := l) (i := i) (j := j) h
 have HE : Hid (nowM m l = minF (hereN m) (pairsTo l l.length)) := hid rfl
 rw [HE.out]
 clear hl hnd
 obtain ⟨F, hF⟩ : ∃ F : List (Int × Int) → Int, ∀ ps, F ps = minF (hereN m) ps := ⟨_, fun _ => rfl⟩
 have HF := hid hF
 rw [← hF]
 clear hF
 have hF0 : F (pairsTo l 0) = -1 := by rw [HF.out]; rfl
 have HF0 := hid hF0
 clear hF0
 go_enter Tryz.func39, Tryz.ntmps39
 go_wp2_with fail
 go_loopw [5, 6, 7] (fun bo i _ wr => ∃ k : Nat, k ≤ l.length ∧ bo = .int .i64 (F (pairsTo l k)) ∧ i = .int .i64 k ∧ SL w.heap.size w wr [pBlk w.heap.size (.cells (mC m ad cap) 25)]) (fun _ i _ _ => l.length - (intOf i).toNat)
 case atStart => exact ⟨0, by omega, by rw [HF0.out], rfl, hS⟩
 case round =>
  clear hS
  obtain ⟨k, hk, rfl, rfl, hSr⟩ := hrel
  by_cases hlt : k < l.length
  ·go_wp2_with fail
   go_loopw [5, 7] (fun bo i wq => ∃ j : Nat, j ≤ k ∧ bo = .int .i64 (F (pairsAt l k j)) ∧ i = .int .i64 j ∧ SL w.heap.size w wq [pBlk w.heap.size (.cells (mC m ad cap) 25)]) (fun _ i _ => k - (intOf i).toNat)
   case atStart => exact ⟨0, by omega, by rw [pairsAt_zero], rfl, hSr⟩
   case round =>
    clear hSr
    obtain ⟨j, hj, rfl, rfl, hSq⟩ := hrel
    by_cases hjk : j < k
    ·have hst := HMA.out k j (by omega)
     rw [← HF.out, ← HF.out] at hst
     have hix := HIN.out k hlt
     have hiy := HIN.out j (by omega)
     have hoh := other_hit hix.1 hix.2 hiy.1 hiy.2 (HNE.out k j hlt hjk)
     have CO := fun w => HOA.out (atD 0 l k) w hix.1 hix.2
     have CP := fun w => HPA.out (atD 0 l k) w hix.1 hix.2
     have hhe : hereN m (atD 0 l k, atD 0 l j) = if hitM m (atD 0 l k) (atD 0 l j) then placeM m (atD 0 l k) else -1 := rfl
     rw [hhe] at hst
     have hpl := hit_place (m := m) (x := atD 0 l k) (y := atD 0 l j)
     obtain ⟨X, hX⟩ : ∃ X, X = atD 0 l k := ⟨_, rfl⟩
     obtain ⟨Y, hY⟩ : ∃ Y, Y = atD 0 l j := ⟨_, rfl⟩
     obtain ⟨B, hB⟩ : ∃ B, B = F (pairsAt l k j) := ⟨_, rfl⟩
     rw [← hB] at hst ⊢
     rw [← hX] at hst hoh CO CP hpl
     rw [← hY] at hst hoh hpl
     obtain ⟨O, hO⟩ : ∃ O, O = otherM m X := ⟨_, rfl⟩
     obtain ⟨Pl, hPl⟩ : ∃ P, P = placeM m X := ⟨_, rfl⟩
     rw [← hO] at CO hoh
     rw [← hPl] at CP hst hpl
     have HX := hid hX; have HY := hid hY; have HO := hid CO; have HP := hid CP
     have hLq := hL.below hSq.b
     have q2 := (hSq.blk 0 rfl).1
     have hkl : (k : Int) < l.length := by omega
     have hjl : (j : Int) < l.length := by omega
     clear hix hiy CO CP hhe hX hY hB hO hPl
     cases hh : hitM m X Y
     ·rw [hh] at hoh hst
      simp only [Bool.false_eq_true, if_false, show ¬ (0 : Int) ≤ -1 by decide, false_and] at hst
      have HST := hid hst
      clear hst hpl hh
      go_wp2_with fail
      refine wp_region_q (by kernel_rfl) (by kernel_rfl) ?_
      repeat (first | ((with_reducible refine wpQ_skip (by with_unfolding_all rfl) ?_); (try simp only [Act.put, pA, pB, pC])) | ((with_reducible refine wpB_loadS (n := 4) (us := mC m ad cap) A_rmach (by kernel_rfl) (by with_unfolding_all rfl) (by with_unfolding_all rfl) (by assumption) (by with_unfolding_all rfl) (by with_unfolding_all rfl) ?_); (try simp only [Act.put, pA, pB, pC])) | (((with_reducible refine wpB_idxW 0 E_ints F_int cInt1 (by with_unfolding_all rfl) (rfl) (by with_unfolding_all rfl) (hLq) (by first | omega | (simp; done)) (by first | omega | (simp; done)) (fun _ => by with_unfolding_all rfl) (by with_unfolding_all rfl) (fun _ => by with_unfolding_all rfl) (fun _ => ?_)); (try simp only [Act.put, pA, pB, pC]); (try simp only [cInt])); first | rw [← HX.out] | rw [← HY.out]) | ((with_reducible refine wpB_call (.int .i64 O) (by with_unfolding_all rfl) (fun w' => ?_) (fun w' hw' => HO.out w') ?_); (focus (go_simp; done)); (try simp only [Act.put, pA, pB, pC])) | ((with_reducible refine wpB_call (.int .i64 Pl) (by with_unfolding_all rfl) (fun w' => ?_) (fun w' hw' => HP.out w') ?_); (focus (go_simp; done)); (try simp only [Act.put, pA, pB, pC])) | (((refine wpQ_oneG ?_ (by with_unfolding_all rfl) (fun w' => ?_) ?_); rotate_left; (go_simp; rfl); (try simp only [Act.put, pA, pB, pC])); first | rw [hoh] | skip) |  ((with_reducible refine wpB_load (by first | exact F_int | exact F_u64s) (by with_unfolding_all rfl) (by with_unfolding_all rfl) (by assumption) (by with_unfolding_all rfl) ?_); (try simp only [Act.put, pA, pB, pC])) | ((refine wpQ_oneG ?_ (by with_unfolding_all rfl) (fun w' => ?_) ?_); rotate_left; (go_simp; rfl); (try simp only [Act.put, pA, pB, pC])))
      refine wpQuiet_nil ?_
      intro w5 hb5
      have hS5 := hSq.mono hb5
      clear q2
      go_wp2_with fail
      exact ⟨⟨j + 1, by omega, by rw [HST.out], by go_num, hS5⟩, by simp [intOf]; omega⟩
     ·rw [hh] at hoh hst
      simp only [if_true, hpl hh, true_and] at hst
      clear hpl hh
      by_cases hB0 : B < 0
      ·rw [if_pos (.inl hB0)] at hst
       have hbd : decide (B < 0) = true := decide_eq_true hB0
       have HST := hid hst
       clear hst hB0
       go_wp2_with fail
       refine wp_region_q (by kernel_rfl) (by kernel_rfl) ?_
       repeat (first | ((with_reducible refine wpQ_skip (by with_unfolding_all rfl) ?_); (try simp only [Act.put, pA, pB, pC])) | ((with_reducible refine wpB_loadS (n := 4) (us := mC m ad cap) A_rmach (by kernel_rfl) (by with_unfolding_all rfl) (by with_unfolding_all rfl) (by assumption) (by with_unfolding_all rfl) (by with_unfolding_all rfl) ?_); (try simp only [Act.put, pA, pB, pC])) | (((with_reducible refine wpB_idxW 0 E_ints F_int cInt1 (by with_unfolding_all rfl) (rfl) (by with_unfolding_all rfl) (hLq) (by first | omega | (simp; done)) (by first | omega | (simp; done)) (fun _ => by with_unfolding_all rfl) (by with_unfolding_all rfl) (fun _ => by with_unfolding_all rfl) (fun _ => ?_)); (try simp only [Act.put, pA, pB, pC]); (try simp only [cInt])); first | rw [← HX.out] | rw [← HY.out]) | ((with_reducible refine wpB_call (.int .i64 O) (by with_unfolding_all rfl) (fun w' => ?_) (fun w' hw' => HO.out w') ?_); (focus (go_simp; done)); (try simp only [Act.put, pA, pB, pC])) | ((with_reducible refine wpB_call (.int .i64 Pl) (by with_unfolding_all rfl) (fun w' => ?_) (fun w' hw' => HP.out w') ?_); (focus (go_simp; done)); (try simp only [Act.put, pA, pB, pC])) | (((refine wpQ_oneG ?_ (by with_unfolding_all rfl) (fun w' => ?_) ?_); rotate_left; (go_simp; rfl); (try simp only [Act.put, pA, pB, pC])); first | rw [hoh] | rw [hbd] | skip) |  ((with_reducible refine wpB_load (by first | exact F_int | exact F_u64s) (by with_unfolding_all rfl) (by with_unfolding_all rfl) (by assumption) (by with_unfolding_all rfl) ?_); (try simp only [Act.put, pA, pB, pC])) | ((refine wpQ_oneG ?_ (by with_unfolding_all rfl) (fun w' => ?_) ?_); rotate_left; (go_simp; rfl); (try simp only [Act.put, pA, pB, pC])))
       refine wpQuiet_nil ?_
       intro w5 hb5
       have hS5 := hSq.mono hb5
       clear q2
       go_wp2_with fail
       have hL5 := hL.below hS5.b
       have q5 := (hS5.blk 0 rfl).1
       refine wp_region_q (by kernel_rfl) (by kernel_rfl) ?_
       repeat (first | ((with_reducible refine wpB_loadS (n := 4) (us := mC m ad cap) A_rmach (by kernel_rfl) (by with_unfolding_all rfl) (by with_unfolding_all rfl) (by assumption) (by with_unfolding_all rfl) (by with_unfolding_all rfl) ?_); (try simp only [Act.put, pA, pB, pC])) | (((with_reducible refine wpB_idxW 0 E_ints F_int cInt1 (by with_unfolding_all rfl) (rfl) (by with_unfolding_all rfl) (hL5) (by first | omega | (simp; done)) (by first | omega | (simp; done)) (fun _ => by with_unfolding_all rfl) (by with_unfolding_all rfl) (fun _ => by with_unfolding_all rfl) (fun _ => ?_)); (try simp only [Act.put, pA, pB, pC]); (try simp only [cInt])); rw [← HX.out]) | ((with_reducible refine wpB_call (.int .i64 Pl) (by with_unfolding_all rfl) (fun w' => ?_) (fun w' hw' => HP.out w') ?_); (focus (go_simp; done)); (try simp only [Act.put, pA, pB, pC])) |  ((with_reducible refine wpB_load (by first | exact F_int | exact F_u64s) (by with_unfolding_all rfl) (by with_unfolding_all rfl) (by assumption) (by with_unfolding_all rfl) ?_); (try simp only [Act.put, pA, pB, pC])) | ((refine wpQ_oneG ?_ (by with_unfolding_all rfl) (fun w' => ?_) ?_); rotate_left; (go_simp; rfl); (try simp only [Act.put, pA, pB, pC])))
       refine wpQuiet_nil ?_
       intro w6 hb6
       have hS6 := hS5.mono hb6
       go_wp2_with fail
       exact ⟨⟨j + 1, by omega, by rw [HST.out], by go_num, hS6⟩, by simp [intOf]; omega⟩
      ·have hbd : decide (B < 0) = false := decide_eq_false hB0
       by_cases hPB : Pl < B
       ·rw [if_pos (.inr hPB)] at hst
        have hpd : decide (Pl < B) = true := decide_eq_true hPB
        have HST := hid hst
        clear hst hB0 hPB
        go_wp2_with fail
        refine wp_region_q (by kernel_rfl) (by kernel_rfl) ?_
        repeat (first | ((with_reducible refine wpQ_skip (by with_unfolding_all rfl) ?_); (try simp only [Act.put, pA, pB, pC])) | ((with_reducible refine wpB_loadS (n := 4) (us := mC m ad cap) A_rmach (by kernel_rfl) (by with_unfolding_all rfl) (by with_unfolding_all rfl) (by assumption) (by with_unfolding_all rfl) (by with_unfolding_all rfl) ?_); (try simp only [Act.put, pA, pB, pC])) | (((with_reducible refine wpB_idxW 0 E_ints F_int cInt1 (by with_unfolding_all rfl) (rfl) (by with_unfolding_all rfl) (hLq) (by first | omega | (simp; done)) (by first | omega | (simp; done)) (fun _ => by with_unfolding_all rfl) (by with_unfolding_all rfl) (fun _ => by with_unfolding_all rfl) (fun _ => ?_)); (try simp only [Act.put, pA, pB, pC]); (try simp only [cInt])); first | rw [← HX.out] | rw [← HY.out]) | ((with_reducible refine wpB_call (.int .i64 O) (by with_unfolding_all rfl) (fun w' => ?_) (fun w' hw' => HO.out w') ?_); (focus (go_simp; done)); (try simp only [Act.put, pA, pB, pC])) | ((with_reducible refine wpB_call (.int .i64 Pl) (by with_unfolding_all rfl) (fun w' => ?_) (fun w' hw' => HP.out w') ?_); (focus (go_simp; done)); (try simp only [Act.put, pA, pB, pC])) | (((refine wpQ_oneG ?_ (by with_unfolding_all rfl) (fun w' => ?_) ?_); rotate_left; (go_simp; rfl); (try simp only [Act.put, pA, pB, pC])); first | rw [hoh] | rw [hbd] | rw [hpd] | skip) |  ((with_reducible refine wpB_load (by first | exact F_int | exact F_u64s) (by with_unfolding_all rfl) (by with_unfolding_all rfl) (by assumption) (by with_unfolding_all rfl) ?_); (try simp only [Act.put, pA, pB, pC])) | ((refine wpQ_oneG ?_ (by with_unfolding_all rfl) (fun w' => ?_) ?_); rotate_left; (go_simp; rfl); (try simp only [Act.put, pA, pB, pC])))
        refine wpQuiet_nil ?_
        intro w5 hb5
        have hS5 := hSq.mono hb5
        clear q2
        go_wp2_with fail
        have hL5 := hL.below hS5.b
        have q5 := (hS5.blk 0 rfl).1
        refine wp_region_q (by kernel_rfl) (by kernel_rfl) ?_
        repeat (first | ((with_reducible refine wpB_loadS (n := 4) (us := mC m ad cap) A_rmach (by kernel_rfl) (by with_unfolding_all rfl) (by with_unfolding_all rfl) (by assumption) (by with_unfolding_all rfl) (by with_unfolding_all rfl) ?_); (try simp only [Act.put, pA, pB, pC])) | (((with_reducible refine wpB_idxW 0 E_ints F_int cInt1 (by with_unfolding_all rfl) (rfl) (by with_unfolding_all rfl) (hL5) (by first | omega | (simp; done)) (by first | omega | (simp; done)) (fun _ => by with_unfolding_all rfl) (by with_unfolding_all rfl) (fun _ => by with_unfolding_all rfl) (fun _ => ?_)); (try simp only [Act.put, pA, pB, pC]); (try simp only [cInt])); rw [← HX.out]) | ((with_reducible refine wpB_call (.int .i64 Pl) (by with_unfolding_all rfl) (fun w' => ?_) (fun w' hw' => HP.out w') ?_); (focus (go_simp; done)); (try simp only [Act.put, pA, pB, pC])) |  ((with_reducible refine wpB_load (by first | exact F_int | exact F_u64s) (by with_unfolding_all rfl) (by with_unfolding_all rfl) (by assumption) (by with_unfolding_all rfl) ?_); (try simp only [Act.put, pA, pB, pC])) | ((refine wpQ_oneG ?_ (by with_unfolding_all rfl) (fun w' => ?_) ?_); rotate_left; (go_simp; rfl); (try simp only [Act.put, pA, pB, pC])))
        refine wpQuiet_nil ?_
        intro w6 hb6
        have hS6 := hS5.mono hb6
        go_wp2_with fail
        exact ⟨⟨j + 1, by omega, by rw [HST.out], by go_num, hS6⟩, by simp [intOf]; omega⟩
       ·rw [if_neg (fun h => by rcases h with h | h; exact hB0 h; exact hPB h)] at hst
        have hpd : decide (Pl < B) = false := decide_eq_false hPB
        have HST := hid hst
        clear hst hB0 hPB
        go_wp2_with fail
        refine wp_region_q (by kernel_rfl) (by kernel_rfl) ?_
        repeat (first | ((with_reducible refine wpQ_skip (by with_unfolding_all rfl) ?_); (try simp only [Act.put, pA, pB, pC])) | ((with_reducible refine wpB_loadS (n := 4) (us := mC m ad cap) A_rmach (by kernel_rfl) (by with_unfolding_all rfl) (by with_unfolding_all rfl) (by assumption) (by with_unfolding_all rfl) (by with_unfolding_all rfl) ?_); (try simp only [Act.put, pA, pB, pC])) | (((with_reducible refine wpB_idxW 0 E_ints F_int cInt1 (by with_unfolding_all rfl) (rfl) (by with_unfolding_all rfl) (hLq) (by first | omega | (simp; done)) (by first | omega | (simp; done)) (fun _ => by with_unfolding_all rfl) (by with_unfolding_all rfl) (fun _ => by with_unfolding_all rfl) (fun _ => ?_)); (try simp only [Act.put, pA, pB, pC]); (try simp only [cInt])); first | rw [← HX.out] | rw [← HY.out]) | ((with_reducible refine wpB_call (.int .i64 O) (by with_unfolding_all rfl) (fun w' => ?_) (fun w' hw' => HO.out w') ?_); (focus (go_simp; done)); (try simp only [Act.put, pA, pB, pC])) | ((with_reducible refine wpB_call (.int .i64 Pl) (by with_unfolding_all rfl) (fun w' => ?_) (fun w' hw' => HP.out w') ?_); (focus (go_simp; done)); (try simp only [Act.put, pA, pB, pC])) | (((refine wpQ_oneG ?_ (by with_unfolding_all rfl) (fun w' => ?_) ?_); rotate_left; (go_simp; rfl); (try simp only [Act.put, pA, pB, pC])); first | rw [hoh] | rw [hbd] | rw [hpd] | skip) |  ((with_reducible refine wpB_load (by first | exact F_int | exact F_u64s) (by with_unfolding_all rfl) (by with_unfolding_all rfl) (by assumption) (by with_unfolding_all rfl) ?_); (try simp only [Act.put, pA, pB, pC])) | ((refine wpQ_oneG ?_ (by with_unfolding_all rfl) (fun w' => ?_) ?_); rotate_left; (go_simp; rfl); (try simp only [Act.put, pA, pB, pC])))
        refine wpQuiet_nil ?_
        intro w5 hb5
        have hS5 := hSq.mono hb5
        clear q2
        go_wp2_with fail
        exact ⟨⟨j + 1, by omega, by rw [HST.out], by go_num, hS5⟩, by simp [intOf]; omega⟩
    ·have hjk2 : j = k := by omega
     subst hjk2
     go_wp2_with fail
     exact ⟨⟨j + 1, by omega, by rw [pairsAt_last], by go_num, hSq⟩, by simp [intOf]; omega⟩
  ·have hkn : k = l.length := by omega
   subst hkn
   go_wp2_with fail
   go_ret
   exact ⟨rfl, hSr.b⟩
def meetV : Option (Nat × Int) → Value
 | some v => .tuple #[.int .i64 v.1, .int .i64 v.2]
 | none => .tuple #[.int .i64 (-1), .int .i64 0]
theorem rMeet_any (m : MacV) (ad : Option Addr) (cap : Nat) (al : Option Addr) (cl : Nat) (l : List Int) (w : World) (hR : Ints w ad cap m.sw) (hL : Ints w al cl l) (hg0 : 1 ≤ m.gears) (hg : m.gears ≤ 16) (hl : ∀ x ∈ l, 0 ≤ x ∧ x < 4 * m.gears) (hn : l.length ≤ 64) (hnd : l.Nodup) :
  Calls Tryz.prog 30 #[mV m ad cap, .slice al l.length cl] w fun r w' => r = .returned (meetV (firstM m l)) ∧ Below w.heap.size w w' := by
 have hcap := hL.le
 have hmx := hL.max
 have hS := (SL.nil w).box (.cells (mC m ad cap) 25)
 have HNE : Hid (∀ i j : Nat, i < l.length → j < i → atD 0 l j ≠ atD 0 l i) := hid fun i j hi hj => ne_atI hnd hi (by omega) hj
 have HIN : Hid (∀ k : Nat, k < l.length → 0 ≤ atD 0 l k ∧ atD 0 l k < 4 * m.gears) := hid fun k hk => atD_in hl hk
 have HCA : Hid (∀ (i j : Nat) w, Ints w ad cap m.sw → i < l.length → j < i → _) := hid fun i j w h hi hj => rpair_any m ad cap (atD 0 l i) (atD 0 l j) w h hg0 hg (HIN.out i hi).1 (HIN.out i hi).2 (HIN.out j (by omega)).1 (HIN.out j (by omega)).2 (fun e => HNE.out i j hi hj e.symm)
 have HMA : Hid (∀ i j : Nat, j < l.length → _) := hid fun i j h => min_at (pairN m) (l := l) (i := i) (j := j) h
 have HST : Hid (∀ (K : Nat) w, Ints w ad cap m.sw → Ints w al cl l → K ≤ 4096 → _) := hid fun K w h h2 hK => rSteps_any m ad cap al cl l K w h h2 hg0 hg hl hn (by omega)
 have HNW : Hid (∀ (K : Nat) a c w, Ints w a c (l.map fun s => itM m s K) → _) := hid fun K a c w h => rNow_any m ad cap a c (l.map fun s => itM m s K) w h hg0 hg (fun x hx => by
  obtain ⟨y, hy, rfl⟩ := List.mem_map.1 hx
  exact itM_rng (hl y hy).1 (hl y hy).2 K) (by simpa using hn) (by
  rw [List.nodup_iff_pairwise_ne, List.pairwise_map]
  refine (List.nodup_iff_pairwise_ne.1 hnd).imp_of_mem fun {x y} hx hy hxy e => hxy (itM_inj (hl x hx).1 (hl x hx).2 (hl y hy).1 (hl y hy).2 K e))
 have H4096 : Hid (∀ v, firstM m l = some v → v.1 ≤ 4096) := hid fun v hv => by
  obtain ⟨_, s2⟩ := foldF_spec m (pairsTo l l.length) none
  obtain ⟨_, _, k3⟩ := s2 _ hv
  rcases k3 with k3 | ⟨p, hp, e⟩
  ·cases k3
  ·obtain ⟨i, j, hji, hi, rfl⟩ := (pairsTo_mem (Nat.le_refl _)).1 hp
   obtain ⟨L, hL0, hL1, hLa, hLb⟩ := meet_per2 hg (HIN.out i hi).1 (HIN.out i hi).2 (HIN.out j (by omega)).1 (HIN.out j (by omega)).2
   have hs := meetM_spec m (atD 0 l i) (atD 0 l j)
   dsimp only at e
   rw [e] at hs
   obtain ⟨t1, _, t3⟩ := hs
   by_cases h : v.1 ≤ 4096
   ·exact h
   ·have hN := meet_none (m := m) hL0 hLa hLb (fun k hk => t3 k (by omega))
    have := (meetM_spec m (atD 0 l i) (atD 0 l j)).eq hN
    rw [e] at this; cases this
 have HE : Hid (meetN m l = minF (pairN m) (pairsTo l l.length)) := hid rfl
 have HN0 : Hid (firstM m l = none → meetN m l = -1) := hid meet_refN
 have HN1 : Hid (∀ v, firstM m l = some v → meetN m l = v.1 ∧ nowM m (l.map fun s => itM m s v.1) = v.2) := hid fun v hv => meet_refS hv
 generalize firstM m l = ff at HN0 HN1 H4096 ⊢
 obtain ⟨RR, hRR⟩ : ∃ RR : Value, RR = meetV ff := ⟨_, rfl⟩
 have HRR := hid hRR
 rw [← hRR]
 clear hl hnd hRR
 obtain ⟨F, hF⟩ : ∃ F : List (Int × Int) → Int, ∀ ps, F ps = minF (pairN m) ps := ⟨_, fun _ => rfl⟩
 have HF := hid hF
 clear hF
 have hF0 : F (pairsTo l 0) = -1 := by rw [HF.out]; rfl
 have HF0 := hid hF0
 clear hF0
 go_enter Tryz.func30, Tryz.ntmps30
 go_wp2_with fail
 go_loopw [6, 7, 8, 9] (fun bo i _ _ wr => ∃ k : Nat, k ≤ l.length ∧ bo = .int .i64 (F (pairsTo l k)) ∧ i = .int .i64 k ∧ SL w.heap.size w wr [pBlk w.heap.size (.cells (mC m ad cap) 25)]) (fun _ i _ _ _ => l.length - (intOf i).toNat)
 case atStart => exact ⟨0, by omega, by rw [HF0.out], rfl, hS⟩
 case round =>
  clear hS
  obtain ⟨k, hk, rfl, rfl, hSr⟩ := hrel
  by_cases hlt : k < l.length
  ·go_wp2_with fail
   go_loopw [6, 8, 9] (fun bo i _ wq => ∃ j : Nat, j ≤ k ∧ bo = .int .i64 (F (pairsAt l k j)) ∧ i = .int .i64 j ∧ SL w.heap.size w wq [pBlk w.heap.size (.cells (mC m ad cap) 25)]) (fun _ i _ _ => k - (intOf i).toNat)
   case atStart => exact ⟨0, by omega, by rw [pairsAt_zero], rfl, hSr⟩
   case round =>
    clear hSr
    obtain ⟨j, hj, rfl, rfl, hSq⟩ := hrel
    by_cases hjk : j < k
    ·have hst := HMA.out k j (by omega)
     rw [← HF.out, ← HF.out] at hst
     have CC := fun w h => HCA.out k j w h hlt hjk
     obtain ⟨Q, hQ⟩ : ∃ Q, Q = pairN m (atD 0 l k, atD 0 l j) := ⟨_, rfl⟩
     rw [← hQ] at hst CC
     obtain ⟨X, hX⟩ : ∃ X, X = atD 0 l k := ⟨_, rfl⟩
     obtain ⟨Y, hY⟩ : ∃ Y, Y = atD 0 l j := ⟨_, rfl⟩
     obtain ⟨B, hB⟩ : ∃ B, B = F (pairsAt l k j) := ⟨_, rfl⟩
     rw [← hB] at hst ⊢
     rw [← hX] at CC
     rw [← hY] at CC
     have HX := hid hX; have HY := hid hY; have HC := hid CC
     have hLq := hL.below hSq.b
     have hRq := hR.below hSq.b
     have q2 := (hSq.blk 0 rfl).1
     have hkl : (k : Int) < l.length := by omega
     have hjl : (j : Int) < l.length := by omega
     clear CC hX hY hB hQ
     by_cases hQ0 : 0 ≤ Q
     ·have hqd : decide (0 ≤ Q) = true := decide_eq_true hQ0
      by_cases hB0 : B < 0
      ·rw [if_pos ⟨hQ0, .inl hB0⟩] at hst
       have hbd : decide (B < 0) = true := decide_eq_true hB0
       have HST := hid hst
       clear hst hB0 hQ0
       go_wp2_with fail
       refine wp_region_q (by kernel_rfl) (by kernel_rfl) ?_
       repeat (first | ((with_reducible refine wpB_loadS (n := 4) (us := mC m ad cap) A_rmach (by kernel_rfl) (by with_unfolding_all rfl) (by with_unfolding_all rfl) (by assumption) (by with_unfolding_all rfl) (by with_unfolding_all rfl) ?_); (try simp only [Act.put, pA, pB, pC])) | (((with_reducible refine wpB_idxW 0 E_ints F_int cInt1 (by with_unfolding_all rfl) (rfl) (by with_unfolding_all rfl) (hLq) (by first | omega | (simp; done)) (by first | omega | (simp; done)) (fun _ => by with_unfolding_all rfl) (by with_unfolding_all rfl) (fun _ => by with_unfolding_all rfl) (fun _ => ?_)); (try simp only [Act.put, pA, pB, pC]); (try simp only [cInt])); first | rw [← HX.out] | rw [← HY.out]) | ((with_reducible refine wpB_call (.int .i64 Q) (by with_unfolding_all rfl) (fun w' => ?_) (fun w' hw' => HC.out w' (hRq.below hw')) ?_); (focus (go_simp; done)); (try simp only [Act.put, pA, pB, pC])) |  ((with_reducible refine wpB_load (by first | exact F_int | exact F_u64s) (by with_unfolding_all rfl) (by with_unfolding_all rfl) (by assumption) (by with_unfolding_all rfl) ?_); (try simp only [Act.put, pA, pB, pC])) | ((refine wpQ_oneG ?_ (by with_unfolding_all rfl) (fun w' => ?_) ?_); rotate_left; (go_simp; rfl); (try simp only [Act.put, pA, pB, pC])))
       refine wpQuiet_nil ?_
       intro w5 hb5
       have hS5 := hSq.mono hb5
       clear q2
       go_wp2_with fail
       exact ⟨⟨j + 1, by omega, by rw [HST.out], by go_num, hS5⟩, by simp [intOf]; omega⟩
      ·have hbd : decide (B < 0) = false := decide_eq_false hB0
       by_cases hPB : Q < B
       ·rw [if_pos ⟨hQ0, .inr hPB⟩] at hst
        have hpd : decide (Q < B) = true := decide_eq_true hPB
        have HST := hid hst
        clear hst hB0 hPB hQ0
        go_wp2_with fail
        refine wp_region_q (by kernel_rfl) (by kernel_rfl) ?_
        repeat (first | ((with_reducible refine wpB_loadS (n := 4) (us := mC m ad cap) A_rmach (by kernel_rfl) (by with_unfolding_all rfl) (by with_unfolding_all rfl) (by assumption) (by with_unfolding_all rfl) (by with_unfolding_all rfl) ?_); (try simp only [Act.put, pA, pB, pC])) | (((with_reducible refine wpB_idxW 0 E_ints F_int cInt1 (by with_unfolding_all rfl) (rfl) (by with_unfolding_all rfl) (hLq) (by first | omega | (simp; done)) (by first | omega | (simp; done)) (fun _ => by with_unfolding_all rfl) (by with_unfolding_all rfl) (fun _ => by with_unfolding_all rfl) (fun _ => ?_)); (try simp only [Act.put, pA, pB, pC]); (try simp only [cInt])); first | rw [← HX.out] | rw [← HY.out]) | ((with_reducible refine wpB_call (.int .i64 Q) (by with_unfolding_all rfl) (fun w' => ?_) (fun w' hw' => HC.out w' (hRq.below hw')) ?_); (focus (go_simp; done)); (try simp only [Act.put, pA, pB, pC])) |  ((with_reducible refine wpB_load (by first | exact F_int | exact F_u64s) (by with_unfolding_all rfl) (by with_unfolding_all rfl) (by assumption) (by with_unfolding_all rfl) ?_); (try simp only [Act.put, pA, pB, pC])) | ((refine wpQ_oneG ?_ (by with_unfolding_all rfl) (fun w' => ?_) ?_); rotate_left; (go_simp; rfl); (try simp only [Act.put, pA, pB, pC])))
        refine wpQuiet_nil ?_
        intro w5 hb5
        have hS5 := hSq.mono hb5
        clear q2
        go_wp2_with fail
        exact ⟨⟨j + 1, by omega, by rw [HST.out], by go_num, hS5⟩, by simp [intOf]; omega⟩
       ·rw [if_neg (fun h => by rcases h.2 with h | h; exact hB0 h; exact hPB h)] at hst
        have hpd : decide (Q < B) = false := decide_eq_false hPB
        have HST := hid hst
        clear hst hB0 hPB hQ0
        go_wp2_with fail
        refine wp_region_q (by kernel_rfl) (by kernel_rfl) ?_
        repeat (first | ((with_reducible refine wpB_loadS (n := 4) (us := mC m ad cap) A_rmach (by kernel_rfl) (by with_unfolding_all rfl) (by with_unfolding_all rfl) (by assumption) (by with_unfolding_all rfl) (by with_unfolding_all rfl) ?_); (try simp only [Act.put, pA, pB, pC])) | (((with_reducible refine wpB_idxW 0 E_ints F_int cInt1 (by with_unfolding_all rfl) (rfl) (by with_unfolding_all rfl) (hLq) (by first | omega | (simp; done)) (by first | omega | (simp; done)) (fun _ => by with_unfolding_all rfl) (by with_unfolding_all rfl) (fun _ => by with_unfolding_all rfl) (fun _ => ?_)); (try simp only [Act.put, pA, pB, pC]); (try simp only [cInt])); first | rw [← HX.out] | rw [← HY.out]) | ((with_reducible refine wpB_call (.int .i64 Q) (by with_unfolding_all rfl) (fun w' => ?_) (fun w' hw' => HC.out w' (hRq.below hw')) ?_); (focus (go_simp; done)); (try simp only [Act.put, pA, pB, pC])) |  ((with_reducible refine wpB_load (by first | exact F_int | exact F_u64s) (by with_unfolding_all rfl) (by with_unfolding_all rfl) (by assumption) (by with_unfolding_all rfl) ?_); (try simp only [Act.put, pA, pB, pC])) | ((refine wpQ_oneG ?_ (by with_unfolding_all rfl) (fun w' => ?_) ?_); rotate_left; (go_simp; rfl); (try simp only [Act.put, pA, pB, pC])))
        refine wpQuiet_nil ?_
        intro w5 hb5
        have hS5 := hSq.mono hb5
        clear q2
        go_wp2_with fail
        exact ⟨⟨j + 1, by omega, by rw [HST.out], by go_num, hS5⟩, by simp [intOf]; omega⟩
     ·have hqd : decide (0 ≤ Q) = false := decide_eq_false hQ0
      rw [if_neg (fun h => hQ0 h.1)] at hst
      have HST := hid hst
      clear hst hQ0
      go_wp2_with fail
      refine wp_region_q (by kernel_rfl) (by kernel_rfl) ?_
      repeat (first | ((with_reducible refine wpB_loadS (n := 4) (us := mC m ad cap) A_rmach (by kernel_rfl) (by with_unfolding_all rfl) (by with_unfolding_all rfl) (by assumption) (by with_unfolding_all rfl) (by with_unfolding_all rfl) ?_); (try simp only [Act.put, pA, pB, pC])) | (((with_reducible refine wpB_idxW 0 E_ints F_int cInt1 (by with_unfolding_all rfl) (rfl) (by with_unfolding_all rfl) (hLq) (by first | omega | (simp; done)) (by first | omega | (simp; done)) (fun _ => by with_unfolding_all rfl) (by with_unfolding_all rfl) (fun _ => by with_unfolding_all rfl) (fun _ => ?_)); (try simp only [Act.put, pA, pB, pC]); (try simp only [cInt])); first | rw [← HX.out] | rw [← HY.out]) | ((with_reducible refine wpB_call (.int .i64 Q) (by with_unfolding_all rfl) (fun w' => ?_) (fun w' hw' => HC.out w' (hRq.below hw')) ?_); (focus (go_simp; done)); (try simp only [Act.put, pA, pB, pC])) |  ((with_reducible refine wpB_load (by first | exact F_int | exact F_u64s) (by with_unfolding_all rfl) (by with_unfolding_all rfl) (by assumption) (by with_unfolding_all rfl) ?_); (try simp only [Act.put, pA, pB, pC])) | ((refine wpQ_oneG ?_ (by with_unfolding_all rfl) (fun w' => ?_) ?_); rotate_left; (go_simp; rfl); (try simp only [Act.put, pA, pB, pC])))
      refine wpQuiet_nil ?_
      intro w5 hb5
      have hS5 := hSq.mono hb5
      clear q2
      go_wp2_with fail
      exact ⟨⟨j + 1, by omega, by rw [HST.out], by go_num, hS5⟩, by simp [intOf]; omega⟩
    ·have hjk2 : j = k := by omega
     subst hjk2
     go_wp2_with fail
     exact ⟨⟨j + 1, by omega, by rw [pairsAt_last], by go_num, hSq⟩, by simp [intOf]; omega⟩
  ·have hkn : k = l.length := by omega
   subst hkn
   have hfe : F (pairsTo l l.length) = meetN m l := by rw [HF.out, HE.out]
   rw [hfe]
   clear hfe
   cases ff with
   | none =>
    rw [HN0.out rfl]
    have hr : RR = .tuple #[.int .i64 (-1), .int .i64 0] := HRR.out
    have HR2 := hid hr
    clear hr
    go_wp2_with fail
    go_ret2
    exact ⟨by rw [HR2.out]; rfl, hSr.b⟩
   | some v =>
    obtain ⟨n1, n2⟩ := HN1.out v rfl
    have n3 := H4096.out v rfl
    rw [n1]
    have CST := fun w h h2 => HST.out v.1 w h h2 n3
    have CNW := fun a c w h => HNW.out v.1 a c w h
    simp only [n2] at CNW
    obtain ⟨NL, hNL⟩ : ∃ NL, NL = l.map fun s => itM m s v.1 := ⟨_, rfl⟩
    rw [← hNL] at CST
    simp only [← hNL] at CNW
    have hr : RR = .tuple #[.int .i64 v.1, .int .i64 v.2] := HRR.out
    have HNL : Hid (NL.length = l.length) := hid (by rw [hNL]; simp)
    obtain ⟨N, Pl⟩ := v
    dsimp only at hr CST CNW n3
    have HR2 := hid hr; have HS2 := hid CST; have HW2 := hid CNW
    have hNd : decide ((N : Int) < 0) = false := by simp
    have q2 := (hSr.blk 0 rfl).1
    have hRr := hR.below hSr.b
    have hLr := hL.below hSr.b
    clear hr CST CNW n1 n2 hNL
    go_wp2_with fail
    refine wp_regionK (C := (fun V => Below w.heap.size w V ∧ V.heap[w.heap.size]? = some (.cells (mC m ad cap) 25))) [0, 1, 2, 3, 4] [_, _, _, _, _] 4 (by simp only [List.map_cons, List.map_nil, List.getElem?_toArray]; rfl) rfl (by kernel_rfl) (by kernel_rfl) (by kernel_rfl) (⟨hSr.b.drew, q2⟩) ?_
    refine ⟨_, yieldsK_val (by with_unfolding_all rfl) (fun w' => by with_unfolding_all exact rfl), ?_⟩
    go_frame
    refine ⟨_, yieldsK_blkC (n := 4) A_rmach (by kernel_rfl) (fun V h => h.2) rfl (by with_unfolding_all rfl) (by with_unfolding_all rfl), ?_⟩
    go_frame
    refine ⟨_, yieldsK_blkC (n := 4) A_rmach (by kernel_rfl) (fun V h => h.2) rfl (by with_unfolding_all rfl) (by with_unfolding_all rfl), ?_⟩
    go_frame
    refine ⟨_, yieldsK_val (by with_unfolding_all rfl) (fun w' => by with_unfolding_all exact rfl), ?_⟩
    go_frame
    refine ⟨_, yieldsK_val (by with_unfolding_all rfl) (fun w' => by with_unfolding_all exact rfl), ?_⟩
    go_frame
    unfold wpPureK
    have hVd : ({ wr with drawn := wr.drawn + 1 } : World) = wr.drew := rfl
    rw [hVd]
    have b2 : Below wr.heap.size wr wr.drew := (Below.refl _ _).drew
    refine wpAnyC_on [5] (by kernel_rfl) (by simp) ?_
    simp only [List.forall_mem_cons, List.not_mem_nil, false_implies, implies_true, and_true]
    refine wpOp_call (f := 27) (args := #[mV m ad cap, .slice al l.length cl, .int .i64 N]) (by rw [List.getElem?_toArray]; rfl) (by with_unfolding_all rfl) (by first | (go_simp; done) | (simp [execOp, Act.eval, Result.andThen]; done) | (simp [execOp, Act.eval, Result.andThen]; rfl)) ?_
    refine (HS2.out _ (hRr.below b2) (hLr.below b2)).mono ?_
    rintro e w3 ⟨v3, rfl, ho3, b3⟩
    obtain ⟨a3, c3, rfl, h3, _, _⟩ := ho3.reps
    have hS3 := hSr.drew.mono b3
    refine ⟨_, rfl, ⟨hS3.b, (hS3.blk 0 rfl).1⟩, ?_⟩
    go_frame
    refine wpAnyC_on [6] (by kernel_rfl) (by simp) ?_
    simp only [List.forall_mem_cons, List.not_mem_nil, false_implies, implies_true, and_true]
    refine wpOp_call (f := 39) (args := #[mV m ad cap, .slice a3 NL.length c3]) (by rw [List.getElem?_toArray]; rfl) (by with_unfolding_all rfl) (by first | (go_simp; done) | (simp [execOp, Act.eval, Result.andThen]; done) | (simp [execOp, Act.eval, Result.andThen]; rfl)) ?_
    refine (HW2.out a3 c3 _ h3).mono ?_
    rintro e w4 ⟨rfl, b4⟩
    have hS4 := hS3.mono b4
    refine ⟨_, rfl, ⟨hS4.b, (hS4.blk 0 rfl).1⟩, ?_⟩
    go_frame
    refine wpAnyC_rest [7, 8] [_, _] rfl (by simp only [List.map_cons, List.map_nil, List.getElem?_toArray]; rfl) (by kernel_rfl) (by kernel_rfl) (by kernel_rfl) (⟨hS4.b, (hS4.blk 0 rfl).1⟩) ?_
    repeat (refine ⟨_, .inl ⟨by with_unfolding_all rfl, fun w' _ => by with_unfolding_all exact rfl⟩, ?_⟩; go_frame)
    unfold wpPure
    refine of_wpList_nil (P := Tryz.prog) (ops := #[]) ?_
    go_wp2_with fail
    go_ret2
    exact ⟨by rw [HR2.out]; rfl, hS4.b⟩
end Go.Proofs.YtbchpkmcpplidaaGreatDoor
