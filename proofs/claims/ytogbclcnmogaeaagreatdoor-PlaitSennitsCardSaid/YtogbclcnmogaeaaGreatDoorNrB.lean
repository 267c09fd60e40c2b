/- Contracts of the reference's arithmetic in small numbers: integers as digits. Conditions: numbers of at most 9 digits. -/
import Derived.Test.YtogbclcnmogaeaaGreatDoorNrA
import Derived.Test.YtogbclcnmogaeaaGreatDoorCyA
import Derived.Test.YtogbclcnmogaeaaGreatDoorRlA
set_option linter.all false
namespace Go.Proofs.YtogbclcnmogaeaaGreatDoor
open Go.RowKit
set_option maxHeartbeats 2000000
set_option maxRecDepth 100000

theorem A_integer : Aggr Tryz.prog 170 := ⟨_, Tryz.underlying170, rfl⟩
theorem ints_empty (w : World) (b o cap : Nat) (h : cap ≤ 9223372036854775807) : Ints w (some ⟨b, o, none⟩) cap [] := ⟨cIntS, Nat.zero_le _, by unfold maxLen; omega, fun e => (by cases e), fun j u hu => (by simp at hu)⟩
theorem wd_ints {w : World} {a : Option Addr} {cap x : Nat} (hS : Ints w a cap [(x : Int)]) : Ints w a cap (wD x) := by
  by_cases hx : x = 0
  · subst hx
    obtain ⟨b, o, rfl, _⟩ := hS.cells (by decide) 0 0 (by simp)
    exact ints_empty _ _ _ _ hS.max
  · rw [wD_pos (by omega)]; exact hS
theorem wd_cases (x : Nat) : (x = 0 ∧ wD x = []) ∨ (0 < x ∧ wD x = [(x : Int)]) := by
  by_cases hx : x = 0
  · exact .inl ⟨hx, by rw [hx]; rfl⟩
  · exact .inr ⟨by omega, wD_pos (by omega)⟩

theorem rtrim_any (x : Nat) (a : Option Addr) (cap : Nat) (w : World) (hS : Ints w a cap [(x : Int)]) :
    Calls Tryz.prog 225 #[.slice a 1 cap] w fun r w' => r = .returned (.slice a (wD x).length cap) ∧ w = w' := by
  have hcap := hS.le
  have hm0 := hS.max
  simp only [List.length_cons, List.length_nil] at hcap
  obtain ⟨b, o, rfl, hc⟩ := hS.cells (by decide) 0 0 (by simp)
  have hc := hc 0 (.int .i64 x) rfl
  simp only [Nat.mul_one, Nat.add_zero, Nat.zero_mul] at hc
  by_cases hx : x = 0
  · subst hx
    go_enter Tryz.func225, Tryz.ntmps225
    go_wp2_with fail
    go_loopw [0] (fun v wr => (v = .slice (some ⟨b, o, none⟩) 1 cap ∨ v = .slice (some ⟨b, o, none⟩) 0 cap) ∧ w = wr) (fun v _ => lenV v)
    case atStart => exact ⟨.inl rfl, rfl⟩
    case round =>
      obtain ⟨rfl | rfl, rfl⟩ := hrel
      · go_wp2_with fail
        exact ⟨⟨.inr rfl, by trivial⟩, by simp [lenV]⟩
      · go_wp2_with fail
        go_ret
        exact ⟨rfl, rfl⟩
  · have hxi : ((x : Int) == 0) = false := by simp; omega
    have hw : wD x = [(x : Int)] := wD_pos (by omega)
    rw [hw]
    clear hw
    go_enter Tryz.func225, Tryz.ntmps225
    go_wp2_with fail
    go_loopw [0] (fun v wr => v = .slice (some ⟨b, o, none⟩) 1 cap ∧ w = wr) (fun v _ => 0)
    case atStart => exact ⟨rfl, rfl⟩
    case round =>
      obtain ⟨rfl, rfl⟩ := hrel
      go_wp2_with fail
      go_ret
      exact ⟨rfl, rfl⟩
theorem rtrimE_any (a : Option Addr) (cap : Nat) (w : World) :
    Calls Tryz.prog 225 #[.slice a 0 cap] w fun r w' => r = .returned (.slice a 0 cap) ∧ w = w' := by
  go_enter Tryz.func225, Tryz.ntmps225
  go_wp2_with fail
  go_loopw [0] (fun v wr => v = .slice a 0 cap ∧ w = wr) (fun v _ => 0)
  case atStart => exact ⟨rfl, rfl⟩
  case round =>
    obtain ⟨rfl, rfl⟩ := hrel
    go_wp2_with fail
    go_ret
    exact ⟨rfl, rfl⟩
theorem rsigned_any (x : Nat) (a : Option Addr) (cap : Nat) (w : World) (hS : Ints w a cap [(x : Int)]) :
    Calls Tryz.prog 193 #[.bool false, .slice a 1 cap] w fun r w' => r = .returned (.agg #[.bool false, .slice a (wD x).length cap]) ∧ Below w.heap.size w w' := by
  have CT := fun w (hS : Ints w a cap [(x : Int)]) => rtrim_any x a cap w hS
  have HT := hid CT; clear CT
  have hl := wD_len x
  have hS0 := (SL.nil w).box (.cells #[.bool false, .slice none 0 0] 170)
  go_enter Tryz.func193, Tryz.ntmps193
  go_wp2_with fail
  refine (HT.out _ (hS.alloc _)).mono ?_
  rintro e w1 ⟨rfl, rfl⟩
  go_wp2_with ((with_reducible refine wpList_stoR (us := #[.bool false, .slice a (wD x).length cap]) 0 (by with_unfolding_all rfl) (by with_unfolding_all rfl) (hS0) (by with_unfolding_all rfl) (by kernel_rfl) (by with_unfolding_all rfl) (by with_unfolding_all rfl) ?_); intro w2 hS2)
  exact bodyPost_ret (results_cell rfl rfl A_integer (by kernel_rfl) (hS2.blk 0 rfl).1) rfl ⟨rfl, hS2.b⟩
theorem rsignedE_any (a : Option Addr) (cap : Nat) (w : World) :
    Calls Tryz.prog 193 #[.bool false, .slice a 0 cap] w fun r w' => r = .returned (.agg #[.bool false, .slice a 0 cap]) ∧ Below w.heap.size w w' := by
  have CT := fun w => rtrimE_any a cap w
  have HT := hid CT; clear CT
  have hS0 := (SL.nil w).box (.cells #[.bool false, .slice none 0 0] 170)
  go_enter Tryz.func193, Tryz.ntmps193
  go_wp2_with fail
  refine (HT.out _).mono ?_
  rintro e w1 ⟨rfl, rfl⟩
  go_wp2_with ((with_reducible refine wpList_stoR (us := #[.bool false, .slice a 0 cap]) 0 (by with_unfolding_all rfl) (by with_unfolding_all rfl) (hS0) (by with_unfolding_all rfl) (by kernel_rfl) (by with_unfolding_all rfl) (by with_unfolding_all rfl) ?_); intro w2 hS2)
  exact bodyPost_ret (results_cell rfl rfl A_integer (by kernel_rfl) (hS2.blk 0 rfl).1) rfl ⟨rfl, hS2.b⟩

theorem SL.ownB {α : Type} {c : α → Value} {sz B n cap : Nat} {e : TypeId} {w0 w : World} {L : List Pc} {a : Option Addr} {l : List α} (h : SL B w0 w L) (i : Nat) (hi : L[i]? = some (pOwn c sz e (.slice a n cap) l)) : ∀ b, a = some b → B ≤ b.block := by
  obtain ⟨b, hP, hB, _⟩ := h.upd i hi
  intro b' e1
  subst e1
  exact hB b'.block (hP.2.symm.trans rfl)
/-- an integer of the reference that is not negative, and small. -/
def NatR (w : World) (v : Value) (n : Nat) : Prop := ∃ a cap, v = .agg #[.bool false, .slice a (wD n).length cap] ∧ Ints w a cap (wD n)
theorem NatR.below {w w' : World} {v : Value} {n : Nat} (h : NatR w v n) (hb : Below w.heap.size w w') : NatR w' v n := by
  obtain ⟨a, cap, h1, h2⟩ := h; exact ⟨a, cap, h1, h2.below hb⟩

theorem rwhole_any (x : Nat) (w : World) (hx : x < 1000000000) :
    Calls Tryz.prog 135 #[.int .i64 x] w fun r w' => ∃ a cap, r = .returned (.agg #[.bool false, .slice a (wD x).length cap]) ∧ Ints w' a cap (wD x) ∧ (∀ b, a = some b → w.heap.size ≤ b.block) ∧ Below w.heap.size w w' := by
  have CS := fun a cap w hS => rsigned_any x a cap w hS
  have CE := fun a cap w => rsignedE_any a cap w
  have HS := hid CS; have HE := hid CE; clear CS CE
  have hS0 := ((SL.nil w).box (.cells #[.bool false, .slice none 0 0] 170)).nilS (α := Int) (c := cInt) (sz := 1) (e := 3) cIntS
  by_cases h0 : x = 0
  · subst h0
    go_enter Tryz.func135, Tryz.ntmps135
    go_wp2_with fail
    go_loopw [0, 3, 5] (fun nv wv _ wr => nv = .int .i64 0 ∧ wv = .slice none 0 0 ∧ SL w.heap.size w wr [pBlk w.heap.size (.cells #[.bool false, .slice none 0 0] 170)]) (fun _ _ _ _ => 0)
    case atStart => exact ⟨rfl, rfl, hS0.tail⟩
    case round =>
      obtain ⟨rfl, rfl, hSL⟩ := hrel
      go_wp2_with fail
      refine (HE.out none 0 wr).mono ?_
      rintro e w1 ⟨rfl, b1⟩
      have hSL1 := hSL.mono b1
      go_wp2_with ((with_reducible refine wpList_stoR (us := #[.bool false, .slice none 0 0]) 0 (by with_unfolding_all rfl) (by with_unfolding_all rfl) (hSL1) (by with_unfolding_all rfl) (by kernel_rfl) (by with_unfolding_all rfl) (by with_unfolding_all rfl) ?_); intro w2 hS2)
      exact bodyPost_ret (results_cell rfl rfl A_integer (by kernel_rfl) (hS2.blk 0 rfl).1) rfl ⟨none, 0, rfl, ints_nil _, (fun b e => by cases e), hS2.b⟩
  · have hmod : (x : Int) % 1000000000 = x := Int.emod_eq_of_lt (by omega) (by omega)
    have hdiv : (x : Int) / 1000000000 = 0 := Int.ediv_eq_zero_of_lt (by omega) (by omega)
    have hne : ((x : Int) != 0) = true := by simp; omega
    go_enter Tryz.func135, Tryz.ntmps135
    go_wp2_with fail
    go_loopw [0, 3, 5] (fun nv wv _ wr => ∃ (c : Nat) (l : List Int), nv = .int .i64 c ∧ ((c = x ∧ l = []) ∨ (c = 0 ∧ l = [(x : Int)])) ∧ SL w.heap.size w wr [pOwn cInt 1 3 wv l, pBlk w.heap.size (.cells #[.bool false, .slice none 0 0] 170)]) (fun nv _ _ _ => (intOf nv).toNat)
    case atStart => exact ⟨x, [], rfl, .inl ⟨rfl, rfl⟩, hS0⟩
    case round =>
      clear hS0
      obtain ⟨c, l, rfl, ⟨rfl, rfl⟩ | ⟨rfl, rfl⟩, hSL⟩ := hrel
      · have hl0 : ([] : List Int).length ≤ 5 := by simp
        go_wp2_with ((with_reducible refine wpList_pushL (y := (c : Int)) 0 E_ints (by with_unfolding_all rfl) (by with_unfolding_all rfl) (hSL) (by with_unfolding_all rfl) cIntO ⟨rfl, rfl⟩ (by first | with_unfolding_all rfl | simp) (by with_unfolding_all rfl) (by first | omega | (simp; omega)) (by first | omega | (simp; omega)) ?_); intro v3 w3 hS3)
        exact ⟨⟨0, _, rfl, .inr ⟨rfl, rfl⟩, hS3⟩, by simp [intOf]; omega⟩
      · obtain ⟨a, cap, rfl, hR⟩ := hSL.slice 0 rfl
        clear hmod hdiv hne
        go_wp2_with fail
        refine (HS.out a cap wr hR).mono ?_
        rintro e w1 ⟨rfl, b1⟩
        have hSL1 := hSL.mono b1
        go_wp2_with ((with_reducible refine wpList_stoR (us := #[.bool false, .slice a (wD x).length cap]) 1 (by with_unfolding_all rfl) (by with_unfolding_all rfl) (hSL1) (by with_unfolding_all rfl) (by kernel_rfl) (by with_unfolding_all rfl) (by with_unfolding_all rfl) ?_); intro w2 hS2)
        exact bodyPost_ret (results_cell rfl rfl A_integer (by kernel_rfl) (hS2.blk 1 rfl).1) rfl ⟨a, cap, rfl, wd_ints (hS2.rd 0 rfl), hS2.ownB 0 rfl, hS2.b⟩

theorem rtext_any (x : Nat) (v : Value) (w : World) (hx : x < 1000000000) (hv : NatR w v x) :
    Calls Tryz.prog 134 #[v] w fun r w' => r = .returned (.string (itoaB x)) ∧ Below w.heap.size w w' := by
  obtain ⟨a, cap, rfl, hR⟩ := hv
  have CD := fun w => rdecimal_any x w (by omega)
  have HD := hid CD; clear CD
  rcases wd_cases x with ⟨h0, hw⟩ | ⟨h0, hw⟩
  · subst h0
    rw [hw]
    have hz : itoaB ((0 : Nat) : Int) = ⟨#[48]⟩ := by rw [itoaB_nat, decD_small (by decide)]; rfl
    rw [hz]
    clear hz hw hR
    go_enter Tryz.func134, Tryz.ntmps134
    go_wp2_with fail
    go_ret
    exact ⟨rfl, bal (Below.refl _ _) _⟩
  · rw [hw] at hR ⊢
    clear hw
    have hR1 := hR.alloc (.cells #[.bool false, .slice a 1 cap] 170)
    go_enter Tryz.func134, Tryz.ntmps134
    go_wp2_with (with_reducible refine wpList_idx _ 0 E_ints F_int cInt1 (by with_unfolding_all rfl) (by with_unfolding_all rfl) (hR1) (by first | omega | (simp; done)) (by first | omega | (simp; done)) (fun _ => by with_unfolding_all rfl) (fun _ => ?_))
    refine (HD.out _).mono ?_
    rintro e w1 ⟨rfl, rfl⟩
    go_wp2_with fail
    go_loopw [3, 4] (fun sv iv wr => sv = .string (itoaB x) ∧ iv = .int .i64 (-1) ∧ wr = w.alloc (.cells #[.bool false, .slice a 1 cap] 170)) (fun _ _ _ => 0)
    case atStart => exact ⟨rfl, rfl, rfl⟩
    case round =>
      obtain ⟨rfl, rfl, rfl⟩ := hrel
      go_wp2_with fail
      go_ret
      exact ⟨rfl, bal (Below.refl _ _) _⟩

theorem rparse_any (x : Nat) (w : World) (hx : x < 1000000000) :
    Calls Tryz.prog 190 #[.string (itoaB x)] w fun r w' => ∃ a cap, r = .returned (.agg #[.bool false, .slice a (wD x).length cap]) ∧ Ints w' a cap (wD x) ∧ (∀ b, a = some b → w.heap.size ≤ b.block) ∧ Below w.heap.size w w' := by
  obtain ⟨z1, z2⟩ := itoaB_len hx
  have hd := itoaB_dig z2
  have CV := fun w => rvalue_any x w hx
  have CS := fun a cap w hS => rsigned_any x a cap w hS
  have HS := hid CS; clear CS
  obtain ⟨s, hs⟩ : ∃ s, s = itoaB (x : Int) := ⟨_, rfl⟩
  rw [← hs] at z1 z2 hd CV ⊢
  have HV := hid CV
  rw [byteAt_in z2] at hd
  have d1 : (((s[0]'z2).toNat : Int) == 45) = false := by simp; omega
  clear CV hs hd
  have hS0 := ((SL.nil w).box (.cells #[.bool false, .slice none 0 0] 170)).nilS (α := Int) (c := cInt) (sz := 1) (e := 3) cIntS
  go_enter Tryz.func190, Tryz.ntmps190
  go_wp2_with fail
  go_loopw [0, 4] (fun sv wv wr => sv = .string s ∧ wv = .slice none 0 0 ∧ SL w.heap.size w wr [pOwn cInt 1 3 (.slice none 0 0) [], pBlk w.heap.size (.cells #[.bool false, .slice none 0 0] 170)]) (fun _ _ _ => 0)
  case atStart => exact ⟨rfl, rfl, hS0⟩
  case round =>
    obtain ⟨rfl, rfl, hSL⟩ := hrel
    clear hS0
    have hl0 : ([] : List Int).length ≤ 5 := by simp
    go_wp2_with (first | (go_at_call 214; with_reducible refine (HV.out _).mono ?_; rintro e w' ⟨rfl, rfl⟩) | ((with_reducible refine wpList_pushL (y := (x : Int)) 0 E_ints (by with_unfolding_all rfl) (by with_unfolding_all rfl) (hSL) (by with_unfolding_all rfl) cIntO ⟨rfl, rfl⟩ (by first | with_unfolding_all rfl | simp) (by with_unfolding_all rfl) (by first | omega | (simp; omega)) (by first | omega | (simp; omega)) ?_); intro v3 w3 hS3))
    obtain ⟨a, cap, rfl, hR⟩ := hS3.slice 0 rfl
    go_wp2_with fail
    refine (HS.out a cap w3 hR).mono ?_
    rintro e w1 ⟨rfl, b1⟩
    have hSL1 := hS3.mono b1
    go_wp2_with ((with_reducible refine wpList_stoR (us := #[.bool false, .slice a (wD x).length cap]) 1 (by with_unfolding_all rfl) (by with_unfolding_all rfl) (hSL1) (by with_unfolding_all rfl) (by kernel_rfl) (by with_unfolding_all rfl) (by with_unfolding_all rfl) ?_); intro w2 hS2)
    exact bodyPost_ret (results_cell rfl rfl A_integer (by kernel_rfl) (hS2.blk 1 rfl).1) rfl ⟨a, cap, rfl, wd_ints (hS2.rd 0 rfl), hS2.ownB 0 rfl, hS2.b⟩

theorem rFromInt_any (x : Nat) (w : World) (hx : x < 1000000000) :
    Calls Tryz.prog 79 #[.int .i64 x] w fun r w' => r = .returned (.string (itoaB x)) ∧ Below w.heap.size w w' := by
  have CW := fun w => rwhole_any x w hx
  have CT := fun v w hv => rtext_any x v w hx hv
  have HW := hid CW; have HT := hid CT; clear CW CT
  go_enter Tryz.func79, Tryz.ntmps79
  go_wp2_with fail
  refine (HW.out w).mono ?_
  rintro e w1 ⟨a1, c1, rfl, h1, _, b1⟩
  go_wp2_with fail
  refine (HT.out _ w1 ⟨a1, c1, rfl, h1⟩).mono ?_
  rintro e w2 ⟨rfl, b2⟩
  go_wp2_with fail
  go_ret
  exact ⟨rfl, bnext b1 b2⟩

def cmpN (x y : Nat) : Int := if x < y then -1 else if y < x then 1 else 0
theorem rcompare_any (x y : Nat) (a b : Option Addr) (cap cap2 : Nat) (w : World) (hy0 : 0 < y) (hS : Ints w a cap (wD x)) (hT : Ints w b cap2 (wD y)) :
    Calls Tryz.prog 223 #[.slice a (wD x).length cap, .slice b (wD y).length cap2] w fun r w' => r = .returned (.int .i64 (cmpN x y)) ∧ Below w.heap.size w w' := by
  have hw2 := wD_pos hy0
  rw [hw2] at hT ⊢
  clear hw2
  rcases wd_cases x with ⟨h0, hw⟩ | ⟨h0, hw⟩
  · have e : cmpN x y = -1 := by unfold cmpN; rw [if_pos (by omega)]
    rw [hw, e]
    clear hw e hS
    go_enter Tryz.func223, Tryz.ntmps223
    go_wp2_with fail
    go_ret
    exact ⟨rfl, Below.refl _ _⟩
  · rw [hw] at hS ⊢
    clear hw
    have hx0 : atD 0 [(x : Int)] 0 = x := rfl
    have hy1 : atD 0 [(y : Int)] 0 = y := rfl
    go_enter Tryz.func223, Tryz.ntmps223
    go_wp2_with fail
    go_loopw [5] (fun iv wr => (iv = .int .i64 0 ∨ (iv = .int .i64 (-1) ∧ x = y)) ∧ Below w.heap.size w wr) (fun iv _ => (intOf iv + 1).toNat)
    case atStart => exact ⟨.inl rfl, Below.refl _ _⟩
    case round =>
      obtain ⟨rfl | ⟨rfl, rfl⟩, hbr⟩ := hrel
      · have hSr := hS.below hbr
        have hTr := hT.below hbr
        go_wp2_with fail
        refine wp_region_quiet_lit (by kernel_rfl) (by kernel_rfl) ?_
        repeat (first | ((with_reducible refine wpQD_idx 0 E_ints F_int cInt1 (by with_unfolding_all rfl) (by with_unfolding_all rfl) (hSr) (by first | omega | (simp; done)) (by first | omega | (simp; done)) (fun _ => by with_unfolding_all rfl) (fun _ => ?_)); (try simp only [Act.put, List.setIfInBounds_toArray, List.set_cons_zero, List.set_cons_succ]); (try simp only [cInt])) | ((with_reducible refine wpQD_idx 0 E_ints F_int cInt1 (by with_unfolding_all rfl) (by with_unfolding_all rfl) (hTr) (by first | omega | (simp; done)) (by first | omega | (simp; done)) (fun _ => by with_unfolding_all rfl) (fun _ => ?_)); (try simp only [Act.put, List.setIfInBounds_toArray, List.set_cons_zero, List.set_cons_succ]); (try simp only [cInt])) | quiet_step (fail))
        refine wpQuiet_nil ?_
        intro w2 hb2
        replace hb2 := below_drewN hb2
        try rw [hx0, hy1]
        have hSr2 := hSr.below hb2
        have hTr2 := hTr.below hb2
        by_cases h1 : x < y
        · have e : cmpN x y = -1 := by unfold cmpN; rw [if_pos h1]
          have HE := hid e; clear e
          have h1' : (x : Int) < y := by omega
          go_wp2_with fail
          go_ret
          exact ⟨by rw [HE.out]; rfl, bnext hbr hb2⟩
        · have h1' : ¬ (x : Int) < y := by omega
          go_wp2_with fail
          refine wp_region_quiet_lit (by kernel_rfl) (by kernel_rfl) ?_
          repeat (first | ((with_reducible refine wpQD_idx 0 E_ints F_int cInt1 (by with_unfolding_all rfl) (by with_unfolding_all rfl) (hSr2) (by first | omega | (simp; done)) (by first | omega | (simp; done)) (fun _ => by with_unfolding_all rfl) (fun _ => ?_)); (try simp only [Act.put, List.setIfInBounds_toArray, List.set_cons_zero, List.set_cons_succ]); (try simp only [cInt])) | ((with_reducible refine wpQD_idx 0 E_ints F_int cInt1 (by with_unfolding_all rfl) (by with_unfolding_all rfl) (hTr2) (by first | omega | (simp; done)) (by first | omega | (simp; done)) (fun _ => by with_unfolding_all rfl) (fun _ => ?_)); (try simp only [Act.put, List.setIfInBounds_toArray, List.set_cons_zero, List.set_cons_succ]); (try simp only [cInt])) | quiet_step (fail))
          refine wpQuiet_nil ?_
          intro w3 hb3
          replace hb3 := below_drewN hb3
          try rw [hx0, hy1]
          have b3 := bnext hbr (bnext hb2 hb3)
          by_cases h2 : y < x
          · have e : cmpN x y = 1 := by unfold cmpN; rw [if_neg h1, if_pos h2]
            have HE := hid e; clear e
            have h2' : (y : Int) < x := by omega
            go_wp2_with fail
            go_ret
            exact ⟨by rw [HE.out]; rfl, b3⟩
          · have h2' : ¬ (y : Int) < x := by omega
            go_wp2_with fail
            exact ⟨⟨.inr ⟨rfl, by omega⟩, b3⟩, by simp [intOf]⟩
      · have e : cmpN x x = 0 := by unfold cmpN; rw [if_neg (by omega), if_neg (by omega)]
        have HE := hid e; clear e
        go_wp2_with fail
        go_ret
        exact ⟨by rw [HE.out]; rfl, hbr⟩

theorem rdivDigit_any (x y : Nat) (a : Option Addr) (cap : Nat) (w : World) (hx : x < 1000000000) (hy : y < 1000000000) (hy0 : 0 < y) (hS : Ints w a cap [(x : Int)]) :
    Calls Tryz.prog 224 #[.slice a 1 cap, .int .i64 y] w fun r w' => ∃ a1 c1, r = .returned (.tuple #[.slice a1 (wD (x / y)).length c1, .int .i64 ((x % y : Nat) : Int)]) ∧ Ints w' a1 c1 (wD (x / y)) ∧ Below w.heap.size w w' := by
  have CT := fun a cap w hS => rtrim_any (x / y) a cap w hS
  have HT := hid CT; clear CT
  have hS0 := SL.nil w
  have hx0 : atD 0 [(x : Int)] 0 = x := rfl
  have q1 : ((x / y : Nat) : Int) = (x : Int) / y := Int.natCast_ediv x y
  have q2 : ((x % y : Nat) : Int) = (x : Int) % y := Int.natCast_emod x y
  have b1 : 0 ≤ (x : Int) / y := Int.ediv_nonneg (by omega) (by omega)
  have b2 : (x : Int) / y ≤ x := Int.ediv_le_self _ (by omega)
  have b3 : 0 ≤ (x : Int) % y := Int.emod_nonneg _ (by omega)
  have b4 : (x : Int) % y < y := Int.emod_lt_of_pos _ (by omega)
  have hw1 : IntKind.i64.wrap ((x : Int) / y) = (x : Int) / y := IntWalk.i64_in _ (by omega)
  have hw2 : IntKind.i64.wrap ((x : Int) % y) = (x : Int) % y := IntWalk.i64_in _ (by omega)
  have q3 : (x : Int).tdiv y = (x : Int) / y := Int.tdiv_eq_ediv_of_nonneg (by omega)
  have q4 : (x : Int).tmod y = (x : Int) % y := Int.tmod_eq_emod_of_nonneg (by omega)
  have hq : x / y ≤ x := Nat.div_le_self _ _
  have hr : x % y < y := Nat.mod_lt _ hy0
  have hyn : ¬ (y : Int) = 0 := by omega
  have Q1 := hid q1; have Q2 := hid q2
  rw [q2]
  clear q1 q2
  go_enter Tryz.func224, Tryz.ntmps224
  go_wp2_with ((with_reducible refine wpList_makeL (c := cInt) (1) (0) E_ints cInt1 (by with_unfolding_all rfl) (by with_unfolding_all rfl) (by omega) (by omega) (hS0) ?_); intro ad w1 hS1)
  go_loopw [7, 8, 9] (fun rv iv _ wr => ((rv = .int .i64 0 ∧ iv = .int .i64 0 ∧ SL w.heap.size w wr [pOwn cInt 1 3 (.slice ad 1 1) [0]]) ∨ (rv = .int .i64 ((x : Int) % y) ∧ iv = .int .i64 (-1) ∧ SL w.heap.size w wr [pOwn cInt 1 3 (.slice ad 1 1) [(x : Int) / y]]))) (fun _ iv _ _ => (intOf iv + 1).toNat)
  case atStart => exact .inl ⟨rfl, rfl, hS1⟩
  case round =>
    rcases hrel with ⟨rfl, rfl, hSL⟩ | ⟨rfl, rfl, hSL⟩
    · have hSr := hS.below hSL.b
      go_wp2_with (first | ((with_reducible refine wpList_idx _ 0 E_ints F_int cInt1 (by with_unfolding_all rfl) (by with_unfolding_all rfl) (hSr) (by first | omega | (simp; done)) (by first | omega | (simp; done)) (fun _ => by with_unfolding_all rfl) (fun _ => ?_)); try rw [hx0]) | ((with_reducible refine wpList_storeL (u := ((x : Int) / y)) 0 E_ints cInt1 (sto_int) (by with_unfolding_all rfl) (by with_unfolding_all rfl) (hSL) (by with_unfolding_all rfl) (by first | omega | (simp; done) | (simp; omega)) (by first | omega | (simp; done) | (simp; omega)) (fun _ => by with_unfolding_all rfl) (fun _ => by with_unfolding_all rfl) ?_); intro _ w3 hS3))
      exact ⟨.inr ⟨rfl, rfl, hS3⟩, by simp [intOf]⟩
    · have hR := hSL.rd 0 rfl
      rw [← Q1.out] at hR
      clear q3 q4 hw1 hw2
      go_wp2_with fail
      refine (HT.out ad 1 wr hR).mono ?_
      rintro e w1 ⟨rfl, rfl⟩
      go_wp2_with fail
      go_ret2
      exact ⟨_, _, rfl, wd_ints hR, hSL.b⟩
end Go.Proofs.YtogbclcnmogaeaaGreatDoor
