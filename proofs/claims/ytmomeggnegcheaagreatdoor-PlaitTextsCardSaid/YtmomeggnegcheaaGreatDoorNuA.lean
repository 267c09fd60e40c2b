/- Contracts: small integers and fractions of package num. Conditions: the numbers are below the bounds stated. Contracts: products and quotients of small fractions of package num, and their texts. Conditions: the numbers are below the bounds stated. -/
import Derived.Test.YtmomeggnegcheaaGreatDoorRlA
import Derived.IntWalk
import Derived.Test.YtmomeggnegcheaaGreatDoorLib1
import Derived.Test.YtmomeggnegcheaaGreatDoorMcA
import Derived.Test.YtmomeggnegcheaaGreatDoorRp1
import Derived.Test.YtmomeggnegcheaaGreatDoorPnA
import Derived.BigRegion
import Derived.ChangeAlike
import Derived.Shelf.Bits.Mul64
set_option linter.all false
/- Contracts: small integers and fractions of package num. Conditions: the numbers are below the bounds stated. -/
namespace Go.Proofs.YtmomeggnegcheaaGreatDoor
open Go.RowKit
set_option maxHeartbeats 1000000
set_option maxRecDepth 100000

theorem F_u64s : Flat Tryz.prog 152 := ⟨_, Tryz.underlying152, rfl⟩
theorem A_int : Aggr Tryz.prog 154 := ⟨_, Tryz.underlying154, rfl⟩
theorem A_frac : Aggr Tryz.prog 156 := ⟨_, Tryz.underlying156, rfl⟩
theorem new_at {X : World} {o : Obj} {k : Nat} (hk : X.heap.size = k) : (X.alloc o).heap[k]? = some o := by subst hk; exact heap_alloc_new X o
/-- a small integer, a small fraction. -/
abbrev iV (n : Int) : Value := .agg #[.int .i64 n, .slice none 0 0]
abbrev fV (p q : Int) : Value := .agg #[.int .i64 p, .slice none 0 0, .int .i64 q, .slice none 0 0]

theorem Of_any (n : Int) (w : World) :
    Calls Tryz.prog 147 #[.int .i64 n] w fun r w' => r = .returned (iV n) ∧ Below w.heap.size w w' := by
  go_enter Tryz.func147, Tryz.ntmps147
  go_wp2
  exact bodyPost_ret (v := iV n) (by simp [results, Tryz.f147, go_sem]) rfl ⟨rfl, bal (Below.refl _ _) _⟩
theorem Whole_any (n : Int) (w : World) :
    Calls Tryz.prog 103 #[iV n] w fun r w' => r = .returned (fV n 1) ∧ Below w.heap.size w w' := by
  go_enter Tryz.func103, Tryz.ntmps103
  go_wp2
  have hS := ((SL.nil w).box (.cells #[.int .i64 n, .slice none 0 0] 154)).box (.cells #[.int .i64 0, .slice none 0 0, .int .i64 0, .slice none 0 0] 156)
  simp only [World.size_alloc] at hS
  have q0 := (hS.blk 1 rfl).1
  refine wp_region_qt 3 (by kernel_rfl) (by kernel_rfl) ?_
  simp only [List.take_succ_cons, List.take_zero, List.drop_succ_cons, List.drop_zero]
  repeat (first | ((refine wpB_call (iV 1) (by with_unfolding_all rfl) (fun w' => ?_) (fun w' hw' => Of_any 1 w') ?_); (focus (go_simp; done)); (try simp only [Act.put, List.setIfInBounds_toArray, List.set_cons_zero, List.set_cons_succ])) |  ((with_reducible refine wpB_load (by first | exact F_int | exact F_u64s) (by with_unfolding_all rfl) (by with_unfolding_all rfl) (by assumption) (by with_unfolding_all rfl) ?_); (try simp only [Act.put, List.setIfInBounds_toArray, List.set_cons_zero, List.set_cons_succ])) | ((with_reducible refine wpB_loadS (n := 2) (us := #[_, _]) A_int (by kernel_rfl) (by with_unfolding_all rfl) (by with_unfolding_all rfl) (by assumption) (by with_unfolding_all rfl) (by with_unfolding_all rfl) ?_); (try simp only [Act.put, List.setIfInBounds_toArray, List.set_cons_zero, List.set_cons_succ])) | ((with_reducible refine wpB_loadS (n := 4) (us := #[_, _, _, _]) A_frac (by kernel_rfl) (by with_unfolding_all rfl) (by with_unfolding_all rfl) (by assumption) (by with_unfolding_all rfl) (by with_unfolding_all rfl) ?_); (try simp only [Act.put, List.setIfInBounds_toArray, List.set_cons_zero, List.set_cons_succ])) | ((refine wpQ_oneG ?_ (by with_unfolding_all rfl) (fun w' => ?_) ?_); rotate_left; (go_simp; rfl); (try simp only [Act.put, List.setIfInBounds_toArray, List.set_cons_zero, List.set_cons_succ])))
  refine wpQuiet_nil ?_
  intro w1 hb1
  replace hS := hS.mono hb1
  go_wp2_with ((with_reducible refine wpList_stoR (us := #[.int .i64 n, .slice none 0 0, .int .i64 1, .slice none 0 0]) 0 (by with_unfolding_all rfl) (by with_unfolding_all rfl) (hS) (by with_unfolding_all rfl) (by kernel_rfl) (by with_unfolding_all rfl) (by with_unfolding_all rfl) ?_); intro w2 hS2)
  exact bodyPost_ret (results_cell rfl rfl A_frac (by kernel_rfl) (hS2.blk 0 rfl).1) rfl ⟨rfl, hS2.b⟩

theorem F_any (n : Int) (w : World) :
    Calls Tryz.prog 101 #[.int .i64 n] w fun r w' => r = .returned (fV n 1) ∧ Below w.heap.size w w' := by
  go_enter Tryz.func101, Tryz.ntmps101
  go_wp2_with fail
  refine (Of_any n _).mono ?_
  rintro e w1 ⟨rfl, hb1⟩
  go_wp2_with fail
  refine (Whole_any n _).mono ?_
  rintro e w2 ⟨rfl, hb2⟩
  have hS := (((SL.nil w).box (.cells #[.int .i64 0, .slice none 0 0, .int .i64 0, .slice none 0 0] 156)).mono hb1).mono hb2
  go_wp2_with ((with_reducible refine wpList_stoR (us := #[.int .i64 n, .slice none 0 0, .int .i64 1, .slice none 0 0]) 0 (by with_unfolding_all rfl) (by with_unfolding_all rfl) (hS) (by with_unfolding_all rfl) (by kernel_rfl) (by with_unfolding_all rfl) (by with_unfolding_all rfl) ?_); intro w3 hS2)
  exact bodyPost_ret (results_cell rfl rfl A_frac (by kernel_rfl) (hS2.blk 0 rfl).1) rfl ⟨rfl, hS2.b⟩

def sgn (n : Int) : Int := if n < 0 then -1 else if n = 0 then 0 else 1
theorem Sign_any (n : Int) (w : World) :
    Calls Tryz.prog 184 #[iV n] w fun r w' => r = .returned (.int .i64 (sgn n)) ∧ Below w.heap.size w w' := by
  rcases Int.lt_trichotomy n 0 with h | h | h
  · have hs : sgn n = -1 := by simp [sgn, h]
    rw [hs]; clear hs
    have h2 : n ≤ -1 := by omega
    go_enter Tryz.func184, Tryz.ntmps184
    go_wp2
    go_ret
    exact ⟨by simp; omega, bal (Below.refl _ _) _⟩
  · subst h
    go_enter Tryz.func184, Tryz.ntmps184
    go_wp2
    go_ret
    exact ⟨by simp [sgn]; decide, bal (Below.refl _ _) _⟩
  · have hs : sgn n = 1 := by simp [sgn]; omega
    rw [hs]; clear hs
    have h2 : 1 ≤ n := by omega
    go_enter Tryz.func184, Tryz.ntmps184
    go_wp2
    go_ret
    exact ⟨by simp; omega, bal (Below.refl _ _) _⟩

theorem Abs_any (n : Int) (w : World) (h : 0 ≤ n) :
    Calls Tryz.prog 215 #[iV n] w fun r w' => r = .returned (iV n) ∧ Below w.heap.size w w' := by
  go_enter Tryz.func215, Tryz.ntmps215
  go_wp2
  exact bodyPost_ret (results_cell rfl rfl A_int (by kernel_rfl) (new_at (by simp))) rfl ⟨rfl, bal (bal (Below.refl _ _) _) _⟩

theorem DivMod_any (x y : Int) (w : World) (h0 : 0 ≤ x) (h1 : x ≤ 4611686018427387904) (h2 : 0 < y) (h3 : y ≤ 4611686018427387904) :
    Calls Tryz.prog 216 #[iV x, iV y] w fun r w' => r = .returned (.tuple #[iV (x / y), iV (x % y)]) ∧ Below w.heap.size w w' := by
  have heq := fun (w : World) (a : Option Addr) (n c : Nat) => Lib.run_eql_slice_nil (P := Tryz.prog) w 152 224 a n c 0 0 Tryz.underlying152
  have hmin : (x != -9223372036854775808) = true := by simp; omega
  go_enter Tryz.func216, Tryz.ntmps216
  go_wp2
  have hq0 : 0 ≤ x / y := Int.ediv_nonneg h0 (by omega)
  have hq1 : x / y ≤ x := Int.ediv_le_self y h0
  have hr0 : 0 ≤ x % y := Int.emod_nonneg x (by omega)
  have hr1 : x % y < y := Int.emod_lt_of_pos x h2
  have e1 : x.tdiv y = x / y := Int.tdiv_eq_ediv_of_nonneg h0
  have e2 : x.tmod y = x % y := Int.tmod_eq_emod_of_nonneg h0
  have e3 : IntKind.i64.wrap (x / y) = x / y := IntWalk.i64_in _ (by omega)
  have hy : ¬ y = 0 := by omega
  refine wp_region_quiet_lit (by kernel_rfl) (by kernel_rfl) ?_
  repeat (first  | quiet_step (fail))
  refine wpQuiet_nil ?_
  intro w1 hb1
  replace hb1 := below_drewN hb1
  have hS := ((((SL.nil w).box (.cells #[.int .i64 x, .slice none 0 0] 154)).box (.cells #[.int .i64 y, .slice none 0 0] 154)).box (.cells #[.int .i64 0, .slice none 0 0] 154)).box (.cells #[.int .i64 0, .slice none 0 0] 154)
  simp only [World.size_alloc] at hS
  replace hS := hS.mono hb1
  clear e1 e2 e3
  go_wp2_with (first | ((with_reducible refine wpList_stoR (us := #[.int .i64 (x / y), .slice none 0 0]) 1 (by with_unfolding_all rfl) (by with_unfolding_all rfl) (hS) (by with_unfolding_all rfl) (by kernel_rfl) (by with_unfolding_all rfl) (by with_unfolding_all rfl) ?_); intro w2 hS2) | ((with_reducible refine wpList_stoR (us := #[.int .i64 (x % y), .slice none 0 0]) 0 (by with_unfolding_all rfl) (by with_unfolding_all rfl) (hS2) (by with_unfolding_all rfl) (by kernel_rfl) (by with_unfolding_all rfl) (by with_unfolding_all rfl) ?_); intro w3 hS3))
  exact bodyPost_ret (results_cell2 rfl rfl rfl A_int (by kernel_rfl) (by kernel_rfl) (hS3.blk 1 rfl).1 (hS3.blk 0 rfl).1) rfl ⟨rfl, hS3.b⟩

theorem Quo_any (x y : Int) (w : World) (h0 : 0 ≤ x) (h1 : x ≤ 4611686018427387904) (h2 : 0 < y) (h3 : y ≤ 4611686018427387904) :
    Calls Tryz.prog 187 #[iV x, iV y] w fun r w' => r = .returned (iV (x / y)) ∧ Below w.heap.size w w' := by
  have hs : sgn y = 1 := by simp [sgn]; omega
  have HS1 := fun w => Sign_any y w
  rw [hs] at HS1
  have HSG := hid HS1; clear HS1 hs
  go_enter Tryz.func187, Tryz.ntmps187
  go_wp2_with fail
  have hS := (((SL.nil w).box (.cells #[.int .i64 x, .slice none 0 0] 154)).box (.cells #[.int .i64 y, .slice none 0 0] 154)).box (.cells #[.int .i64 0, .slice none 0 0] 154)
  simp only [World.size_alloc] at hS
  refine (HSG.out _).mono ?_
  rintro e w1 ⟨rfl, hb1⟩
  replace hS := hS.mono hb1
  have q1 := (hS.blk 1 rfl).1
  have q2 := (hS.blk 2 rfl).1
  go_wp2_with (first | (with_reducible refine wpList_ldB (by first | exact F_int | exact F_u64s) (by with_unfolding_all rfl) (by with_unfolding_all rfl) (by assumption) (by with_unfolding_all rfl) ?_) | (with_reducible refine wpList_ldS (n := 2) (us := #[_, _]) A_int (by kernel_rfl) (by with_unfolding_all rfl) (by with_unfolding_all rfl) (by assumption) (by with_unfolding_all rfl) (by with_unfolding_all rfl) ?_))
  refine (DivMod_any x y _ h0 h1 h2 h3).mono ?_
  rintro e w2 ⟨rfl, hb2⟩
  replace hS := hS.mono hb2
  clear q1 q2
  go_wp2_with ((with_reducible refine wpList_stoR (us := #[.int .i64 (x / y), .slice none 0 0]) 0 (by with_unfolding_all rfl) (by with_unfolding_all rfl) (((hS.al _).al _)) (by with_unfolding_all rfl) (by kernel_rfl) (by with_unfolding_all rfl) (by with_unfolding_all rfl) ?_); intro w3 hS3)
  exact bodyPost_ret (results_cell rfl rfl A_int (by kernel_rfl) (hS3.blk 0 rfl).1) rfl ⟨rfl, hS3.b⟩

theorem Gcd_any (x y : Int) (w : World) (h0 : 0 ≤ x) (h1 : x ≤ 4611686018427387904) (h2 : 0 ≤ y) (h3 : y ≤ 4611686018427387904) :
    Calls Tryz.prog 186 #[iV x, iV y] w fun r w' => r = .returned (iV (Int.gcd x y)) ∧ Below w.heap.size w w' := by
  go_enter Tryz.func186, Tryz.ntmps186
  go_wp2_with fail
  have hS := (((SL.nil w).box (.cells #[.int .i64 x, .slice none 0 0] 154)).box (.cells #[.int .i64 y, .slice none 0 0] 154)).box (.cells #[.int .i64 0, .slice none 0 0] 154)
  simp only [World.size_alloc] at hS
  have q1 := (hS.blk 1 rfl).1
  have q2 := (hS.blk 2 rfl).1
  refine wp_region_qt 4 (by kernel_rfl) (by kernel_rfl) ?_
  simp only [List.take_succ_cons, List.take_zero, List.drop_succ_cons, List.drop_zero]
  repeat (first | ((refine wpB_call (iV x) (by with_unfolding_all rfl) (fun w' => ?_) (fun w' hw' => Abs_any x w' h0) ?_); (focus (go_simp; done)); (try simp only [Act.put, List.setIfInBounds_toArray, List.set_cons_zero, List.set_cons_succ])) | ((refine wpB_call (iV y) (by with_unfolding_all rfl) (fun w' => ?_) (fun w' hw' => Abs_any y w' h2) ?_); (focus (go_simp; done)); (try simp only [Act.put, List.setIfInBounds_toArray, List.set_cons_zero, List.set_cons_succ])) |  ((with_reducible refine wpB_load (by first | exact F_int | exact F_u64s) (by with_unfolding_all rfl) (by with_unfolding_all rfl) (by assumption) (by with_unfolding_all rfl) ?_); (try simp only [Act.put, List.setIfInBounds_toArray, List.set_cons_zero, List.set_cons_succ])) | ((with_reducible refine wpB_loadS (n := 2) (us := #[_, _]) A_int (by kernel_rfl) (by with_unfolding_all rfl) (by with_unfolding_all rfl) (by assumption) (by with_unfolding_all rfl) (by with_unfolding_all rfl) ?_); (try simp only [Act.put, List.setIfInBounds_toArray, List.set_cons_zero, List.set_cons_succ])) | ((with_reducible refine wpB_loadS (n := 4) (us := #[_, _, _, _]) A_frac (by kernel_rfl) (by with_unfolding_all rfl) (by with_unfolding_all rfl) (by assumption) (by with_unfolding_all rfl) (by with_unfolding_all rfl) ?_); (try simp only [Act.put, List.setIfInBounds_toArray, List.set_cons_zero, List.set_cons_succ])) | ((refine wpQ_oneG ?_ (by with_unfolding_all rfl) (fun w' => ?_) ?_); rotate_left; (go_simp; rfl); (try simp only [Act.put, List.setIfInBounds_toArray, List.set_cons_zero, List.set_cons_succ])))
  refine wpQuiet_nil ?_
  intro w1 hb1
  replace hS := hS.mono hb1
  clear q1 q2
  go_wp2_with (first | ((with_reducible refine wpList_stoR (us := #[.int .i64 x, .slice none 0 0]) 2 (by with_unfolding_all rfl) (by with_unfolding_all rfl) (hS) (by with_unfolding_all rfl) (by kernel_rfl) (by with_unfolding_all rfl) (by with_unfolding_all rfl) ?_); intro w2 hS2) | ((with_reducible refine wpList_stoR (us := #[.int .i64 y, .slice none 0 0]) 1 (by with_unfolding_all rfl) (by with_unfolding_all rfl) (hS2) (by with_unfolding_all rfl) (by kernel_rfl) (by with_unfolding_all rfl) (by with_unfolding_all rfl) ?_); intro w3 hS3))
  go_frame
  obtain ⟨H, hH⟩ : ∃ H, H = w.heap.size := ⟨_, rfl⟩
  rw [← hH] at hS3 ⊢
  have HH := hid hH; clear hH
  clear hS2 hS
  have hS3 : SL H w w3 [pBlk (H + 1 + 1) (.cells #[.int .i64 0, .slice none 0 0] 154), pBlk (H + 1) (.cells #[.int .i64 y, .slice none 0 0] 154), pBlk H (.cells #[.int .i64 x, .slice none 0 0] 154)] := hS3
  go_loopg [] y.toNat (fun g wr => ∃ a b : Int, g = b.toNat ∧ 0 ≤ a ∧ a ≤ 4611686018427387904 ∧ 0 ≤ b ∧ b ≤ 4611686018427387904 ∧ Aside (Int.gcd a b = Int.gcd x y) ∧
      SL H w wr [pBlk (H + 1 + 1) (.cells #[.int .i64 0, .slice none 0 0] 154), pBlk (H + 1) (.cells #[.int .i64 b, .slice none 0 0] 154), pBlk H (.cells #[.int .i64 a, .slice none 0 0] 154)])
  case atStart => exact ⟨x, y, rfl, h0, h1, h2, h3, rfl, hS3⟩
  case round =>
    obtain ⟨a, b, hg, ha0, ha1, hb0, hb1', HG, hSr⟩ := hrel
    have HGK := hid hg; clear hg
    clear hS3
    have q1 := (hSr.blk 1 rfl).1
    have q2 := (hSr.blk 2 rfl).1
    by_cases hz : b = 0
    · subst hz
      have HSG := hid (fun w => Sign_any 0 w)
      go_wp2_with (with_reducible refine wpList_ldS (n := 2) (us := #[_, _]) A_int (by kernel_rfl) (by with_unfolding_all rfl) (by with_unfolding_all rfl) (by assumption) (by with_unfolding_all rfl) (by with_unfolding_all rfl) ?_)
      refine (HSG.out _).mono ?_
      rintro e w4 ⟨rfl, hb4⟩
      replace hSr := hSr.mono hb4
      clear q1 q2
      have q2 := (hSr.blk 2 rfl).1
      have hs0 : sgn 0 = 0 := by decide
      go_wp2_with (first | (with_reducible refine wpList_ldS (n := 2) (us := #[_, _]) A_int (by kernel_rfl) (by with_unfolding_all rfl) (by with_unfolding_all rfl) (by assumption) (by with_unfolding_all rfl) (by with_unfolding_all rfl) ?_) | ((with_reducible refine wpList_stoR (us := #[.int .i64 a, .slice none 0 0]) 0 (by with_unfolding_all rfl) (by with_unfolding_all rfl) (hSr) (by with_unfolding_all rfl) (by kernel_rfl) (by with_unfolding_all rfl) (by with_unfolding_all rfl) ?_); intro w5 hS5))
      refine bodyPost_ret (results_cell rfl rfl A_int (by kernel_rfl) (hS5.blk 0 rfl).1) rfl ⟨?_, by rw [← HH.out]; exact hS5.b⟩
      rw [← HG.out, Int.gcd_zero_right, Int.natAbs_of_nonneg ha0]
    · have hs : sgn b = 1 := by simp [sgn]; omega
      have HS1 := fun w => Sign_any b w
      rw [hs] at HS1
      have HSG := hid HS1; clear HS1 hs
      have hbp : 0 < b := by omega
      go_wp2_with (with_reducible refine wpList_ldS (n := 2) (us := #[_, _]) A_int (by kernel_rfl) (by with_unfolding_all rfl) (by with_unfolding_all rfl) (by assumption) (by with_unfolding_all rfl) (by with_unfolding_all rfl) ?_)
      refine (HSG.out _).mono ?_
      rintro e w4 ⟨rfl, hb4⟩
      replace hSr := hSr.mono hb4
      clear q1 q2
      have q1 := (hSr.blk 1 rfl).1
      have q2 := (hSr.blk 2 rfl).1
      go_wp2_with (with_reducible refine wpList_ldS (n := 2) (us := #[_, _]) A_int (by kernel_rfl) (by with_unfolding_all rfl) (by with_unfolding_all rfl) (by assumption) (by with_unfolding_all rfl) (by with_unfolding_all rfl) ?_)
      refine (DivMod_any a b _ ha0 ha1 hbp hb1').mono ?_
      rintro e w5 ⟨rfl, hb5⟩
      replace hSr := hSr.mono hb5
      clear q1 q2
      go_wp2_with fail
      replace hSr := (hSr.box (.cells #[.int .i64 (a / b), .slice none 0 0] 154)).box (.cells #[.int .i64 (a % b), .slice none 0 0] 154)
      simp only [World.size_alloc] at hSr
      have hr0 : 0 ≤ a % b := Int.emod_nonneg a (by omega)
      have hr1 : a % b < b := Int.emod_lt_of_pos a hbp
      have n1 := hSr.apart 0 4 (by decide) rfl rfl blk_at blk_at
      have n2 := hSr.apart 0 3 (by decide) rfl rfl blk_at blk_at
      obtain ⟨K, hK⟩ : ∃ K, K = w5.heap.size + 1 := ⟨_, rfl⟩
      rw [← hK] at hSr n1 n2 ⊢
      clear hK
      obtain ⟨W6, hW6⟩ : ∃ W6, W6 = (w5.alloc (.cells #[.int .i64 (a / b), .slice none 0 0] 154)).alloc (.cells #[.int .i64 (a % b), .slice none 0 0] 154) := ⟨_, rfl⟩
      rw [← hW6] at hSr ⊢
      clear hW6
      have c0 := hSr.cell 4 rfl 0 rfl
      have c1 := hSr.cell 4 rfl 1 rfl
      have c2 := hSr.cell 3 rfl 0 rfl
      have c3 := hSr.cell 3 rfl 1 rfl
      have c4 := hSr.cell 0 rfl 0 rfl
      have c5 := hSr.cell 0 rfl 1 rfl
      have f0 := hSr.frozen 4 rfl 0
      have f1 := hSr.frozen 4 rfl 1
      have f2 := hSr.frozen 3 rfl 0
      have f3 := hSr.frozen 3 rfl 1
      go_region
      have hS9 := ((((hSr.set 4 rfl 0 (.int .i64 b)).set 4 rfl 1 (.slice none 0 0)).set 3 rfl 0 (.int .i64 (a % b))).set 3 rfl 1 (.slice none 0 0)).drew
      go_wp2
      go_roundg ((a % b).toNat)
      case measure => rw [HGK.out]; omega
      case rel => exact ⟨b, a % b, rfl, hb0, hb1', hr0, by omega, by show _ = _; rw [← HG.out]; exact gcd_step ha0 hb0, hS9.pick [2, 3, 4] (by decide) _ rfl⟩

/-- the quotient of two small numbers. -/
theorem Make_any (x y : Int) (w : World) (h0 : 0 ≤ x) (h1 : x ≤ 4611686018427387904) (h2 : 0 < y) (h3 : y ≤ 4611686018427387904) :
    Calls Tryz.prog 150 #[iV x, iV y] w fun r w' => r = .returned (fV (x / Int.gcd x y) (y / Int.gcd x y)) ∧ Below w.heap.size w w' := by
  have hs : sgn y = 1 := by simp [sgn]; omega
  have HS1 := fun w => Sign_any y w
  rw [hs] at HS1
  have HSG := hid HS1; clear HS1 hs
  have heq := fun (w : World) (a : Option Addr) (n c : Nat) => Lib.run_eql_slice_nil (P := Tryz.prog) w 152 224 a n c 0 0 Tryz.underlying152
  by_cases hy : y = 1
  · subst hy
    have e : Int.gcd x 1 = 1 := by simp
    rw [e]
    clear e
    go_enter Tryz.func150, Tryz.ntmps150
    go_wp2_with fail
    have hS := (((SL.nil w).box (.cells #[.int .i64 x, .slice none 0 0] 154)).box (.cells #[.int .i64 1, .slice none 0 0] 154)).box (.cells #[.int .i64 0, .slice none 0 0, .int .i64 0, .slice none 0 0] 156)
    simp only [World.size_alloc] at hS
    refine (HSG.out _).mono ?_
    rintro e w1 ⟨rfl, hb1⟩
    replace hS := hS.mono hb1
    have q1 := (hS.blk 1 rfl).1
    have q2 := (hS.blk 2 rfl).1
    go_wp2_with (first | (with_reducible refine wpList_ldB (by first | exact F_int | exact F_u64s) (by with_unfolding_all rfl) (by with_unfolding_all rfl) (by assumption) (by with_unfolding_all rfl) ?_) | (with_reducible refine wpList_ldS (n := 2) (us := #[_, _]) A_int (by kernel_rfl) (by with_unfolding_all rfl) (by with_unfolding_all rfl) (by assumption) (by with_unfolding_all rfl) (by with_unfolding_all rfl) ?_) | ((with_reducible refine wpList_stoR (us := #[.int .i64 x, .slice none 0 0, .int .i64 1, .slice none 0 0]) 0 (by with_unfolding_all rfl) (by with_unfolding_all rfl) (hS) (by with_unfolding_all rfl) (by kernel_rfl) (by with_unfolding_all rfl) (by with_unfolding_all rfl) ?_); intro w2 hS2))
    refine bodyPost_ret (results_cell rfl rfl A_frac (by kernel_rfl) (hS2.blk 0 rfl).1) rfl ⟨?_, hS2.b⟩
    simp
  · have hne : (y == 1) = false := by simpa using hy
    have hg0 : 0 < Int.gcd x y := Int.gcd_pos_of_ne_zero_right _ (by omega)
    have hg1 : (Int.gcd x y : Int) ≤ y := Int.le_of_dvd h2 (Int.gcd_dvd_right ..)
    obtain ⟨g, hg⟩ : ∃ g : Int, g = Int.gcd x y := ⟨_, rfl⟩
    have hG := fun w => Gcd_any x y w h0 h1 (by omega) h3
    rw [← hg] at hG ⊢
    have hg0' : 0 < g := by omega
    have hg1' : g ≤ y := by omega
    have HG := hid hG; clear hG
    clear hg hg0 hg1
    go_enter Tryz.func150, Tryz.ntmps150
    go_wp2_with fail
    have hS := (((SL.nil w).box (.cells #[.int .i64 x, .slice none 0 0] 154)).box (.cells #[.int .i64 y, .slice none 0 0] 154)).box (.cells #[.int .i64 0, .slice none 0 0, .int .i64 0, .slice none 0 0] 156)
    simp only [World.size_alloc] at hS
    refine (HSG.out _).mono ?_
    rintro e w1 ⟨rfl, hb1⟩
    replace hS := hS.mono hb1
    have q1 := (hS.blk 1 rfl).1
    have q2 := (hS.blk 2 rfl).1
    go_wp2_with (first | (with_reducible refine wpList_ldB (by first | exact F_int | exact F_u64s) (by with_unfolding_all rfl) (by with_unfolding_all rfl) (by assumption) (by with_unfolding_all rfl) ?_) | (with_reducible refine wpList_ldS (n := 2) (us := #[_, _]) A_int (by kernel_rfl) (by with_unfolding_all rfl) (by with_unfolding_all rfl) (by assumption) (by with_unfolding_all rfl) (by with_unfolding_all rfl) ?_))
    refine (HG.out _).mono ?_
    rintro e w2 ⟨rfl, hb2⟩
    replace hS := hS.mono hb2
    clear q1 q2
    go_wp2_with fail
    replace hS := hS.box (.cells #[.int .i64 g, .slice none 0 0] 154)
    have q0 := (hS.blk 0 rfl).1
    have q1 := (hS.blk 2 rfl).1
    have q2 := (hS.blk 3 rfl).1
    refine wp_region_qt 7 (by kernel_rfl) (by kernel_rfl) ?_
    simp only [List.take_succ_cons, List.take_zero, List.drop_succ_cons, List.drop_zero]
    repeat (first | ((refine wpB_call (iV (x / g)) (by with_unfolding_all rfl) (fun w' => ?_) (fun w' hw' => Quo_any x g w' h0 h1 hg0' (by omega)) ?_); (focus (go_simp; done)); (try simp only [Act.put, List.setIfInBounds_toArray, List.set_cons_zero, List.set_cons_succ])) | ((refine wpB_call (iV (y / g)) (by with_unfolding_all rfl) (fun w' => ?_) (fun w' hw' => Quo_any y g w' (by omega) h3 hg0' (by omega)) ?_); (focus (go_simp; done)); (try simp only [Act.put, List.setIfInBounds_toArray, List.set_cons_zero, List.set_cons_succ])) |  ((with_reducible refine wpB_load (by first | exact F_int | exact F_u64s) (by with_unfolding_all rfl) (by with_unfolding_all rfl) (by assumption) (by with_unfolding_all rfl) ?_); (try simp only [Act.put, List.setIfInBounds_toArray, List.set_cons_zero, List.set_cons_succ])) | ((with_reducible refine wpB_loadS (n := 2) (us := #[_, _]) A_int (by kernel_rfl) (by with_unfolding_all rfl) (by with_unfolding_all rfl) (by assumption) (by with_unfolding_all rfl) (by with_unfolding_all rfl) ?_); (try simp only [Act.put, List.setIfInBounds_toArray, List.set_cons_zero, List.set_cons_succ])) | ((with_reducible refine wpB_loadS (n := 4) (us := #[_, _, _, _]) A_frac (by kernel_rfl) (by with_unfolding_all rfl) (by with_unfolding_all rfl) (by assumption) (by with_unfolding_all rfl) (by with_unfolding_all rfl) ?_); (try simp only [Act.put, List.setIfInBounds_toArray, List.set_cons_zero, List.set_cons_succ])) | ((refine wpQ_oneG ?_ (by with_unfolding_all rfl) (fun w' => ?_) ?_); rotate_left; (go_simp; rfl); (try simp only [Act.put, List.setIfInBounds_toArray, List.set_cons_zero, List.set_cons_succ])))
    refine wpQuiet_nil ?_
    intro w3 hb3
    replace hS := hS.mono hb3
    clear q0 q1 q2
    go_wp2_with ((with_reducible refine wpList_stoR (us := #[.int .i64 (x / g), .slice none 0 0, .int .i64 (y / g), .slice none 0 0]) 1 (by with_unfolding_all rfl) (by with_unfolding_all rfl) (hS) (by with_unfolding_all rfl) (by kernel_rfl) (by with_unfolding_all rfl) (by with_unfolding_all rfl) ?_); intro w4 hS2)
    exact bodyPost_ret (results_cell rfl rfl A_frac (by kernel_rfl) (hS2.blk 1 rfl).1) rfl ⟨rfl, hS2.b⟩
end Go.Proofs.YtmomeggnegcheaaGreatDoor

/- Contracts: products and quotients of small fractions of package num, and their texts. Conditions: the numbers are below the bounds stated. -/
namespace Go.Proofs.YtmomeggnegcheaaGreatDoor
open Go.RowKit Go.Shelf
set_option maxHeartbeats 1000000
set_option maxRecDepth 100000

theorem Inv_any (p q : Int) (w : World) (h0 : 0 < p) (h1 : p ≤ 4611686018427387904) (h2 : 0 ≤ q) (h3 : q ≤ 4611686018427387904) :
    Calls Tryz.prog 149 #[fV p q] w fun r w' => r = .returned (fV (q / Int.gcd q p) (p / Int.gcd q p)) ∧ Below w.heap.size w w' := by
  have HM := hid (fun w => Make_any q p w h2 h3 h0 h1)
  obtain ⟨g, hg⟩ : ∃ g : Int, g = Int.gcd q p := ⟨_, rfl⟩
  rw [← hg] at HM ⊢
  clear hg
  go_enter Tryz.func149, Tryz.ntmps149
  go_wp2_with fail
  refine (HM.out _).mono ?_
  rintro e w1 ⟨rfl, hb1⟩
  have hS := ((SL.nil w).box (.cells #[.int .i64 p, .slice none 0 0, .int .i64 q, .slice none 0 0] 156)).box (.cells #[.int .i64 0, .slice none 0 0, .int .i64 0, .slice none 0 0] 156)
  simp only [World.size_alloc] at hS
  replace hS := hS.mono hb1
  go_wp2_with ((with_reducible refine wpList_stoR (us := #[.int .i64 (q / g), .slice none 0 0, .int .i64 (p / g), .slice none 0 0]) 0 (by with_unfolding_all rfl) (by with_unfolding_all rfl) (hS) (by with_unfolding_all rfl) (by kernel_rfl) (by with_unfolding_all rfl) (by with_unfolding_all rfl) ?_); intro w4 hS2)
  exact bodyPost_ret (results_cell rfl rfl A_frac (by kernel_rfl) (hS2.blk 0 rfl).1) rfl ⟨rfl, hS2.b⟩

theorem nsize_any (n : Int) (w : World) (h0 : 0 ≤ n) (h1 : n ≤ 4611686018427387904) :
    Calls Tryz.prog 188 #[.int .i64 n] w fun r w' => r = .returned (.int .u64 n) ∧ w = w' := by
  go_enter Tryz.func188, Tryz.ntmps188
  go_wp2
  go_ret
  exact ⟨by congr 2 <;> omega, rfl⟩
theorem mul64_any (x y : Int) (hx : 0 ≤ x) (hy : 0 ≤ y) (h : x * y ≤ 4611686018427387904) (hx2 : x ≤ 4611686018427387904) (hy2 : y ≤ 4611686018427387904) (w : World) :
    Calls Tryz.prog 181 #[.int .u64 x, .int .u64 y] w fun e w' => e = .returned (.tuple #[.int .u64 0, .int .u64 (x * y)]) ∧ w = w' := by
  obtain ⟨a, rfl⟩ := Int.eq_ofNat_of_zero_le hx
  obtain ⟨b, rfl⟩ := Int.eq_ofNat_of_zero_le hy
  have h' : a * b ≤ 4611686018427387904 := by have : ((a * b : Nat) : Int) ≤ 4611686018427387904 := by rw [Int.natCast_mul]; exact h
                                              omega
  refine (Any.bits_Mul64 { Tryz.lays212 with } a b (by omega) (by omega) w).mono ?_
  rintro e w' ⟨rfl, rfl⟩
  have e1 : a * b / 18446744073709551616 = 0 := Nat.div_eq_of_lt (by omega)
  have e2 : a * b % 18446744073709551616 = a * b := Nat.mod_eq_of_lt (by omega)
  rw [e1, e2]
  exact ⟨by rw [Int.natCast_mul]; rfl, rfl⟩

theorem IMul_any (x y : Int) (w : World) (h0 : 0 ≤ x) (h1 : x ≤ 4611686018427387904) (h2 : 0 ≤ y) (h3 : y ≤ 4611686018427387904) (h : x * y ≤ 4611686018427387904) :
    Calls Tryz.prog 151 #[iV x, iV y] w fun r w' => r = .returned (iV (x * y)) ∧ Below w.heap.size w w' := by
  have hp0 : 0 ≤ x * y := Int.mul_nonneg h0 h2
  have HM := hid (mul64_any x y h0 h2 h h1 h3)
  obtain ⟨z, hz⟩ : ∃ z, z = x * y := ⟨_, rfl⟩
  rw [← hz] at HM h hp0 ⊢
  clear hz
  have hx : decide (x < 0) = false := by simp; omega
  have hy : decide (y < 0) = false := by simp; omega
  have heq := fun (w : World) (a : Option Addr) (n c : Nat) => Lib.run_eql_slice_nil (P := Tryz.prog) w 152 224 a n c 0 0 Tryz.underlying152
  go_enter Tryz.func151, Tryz.ntmps151
  go_wp2
  have hS := (((SL.nil w).box (.cells #[.int .i64 x, .slice none 0 0] 154)).box (.cells #[.int .i64 y, .slice none 0 0] 154)).box (.cells #[.int .i64 0, .slice none 0 0] 154)
  simp only [World.size_alloc] at hS
  have q1 := (hS.blk 1 rfl).1
  have q2 := (hS.blk 2 rfl).1
  refine wp_region_q (by kernel_rfl) (by kernel_rfl) ?_
  repeat (first | ((refine wpB_call (.int .u64 x) (by with_unfolding_all rfl) (fun w' => ?_) (fun w' hw' => calls_below (nsize_any x w' h0 h1)) ?_); (focus (go_simp; done)); (try simp only [Act.put, List.setIfInBounds_toArray, List.set_cons_zero, List.set_cons_succ])) | ((refine wpB_call (.int .u64 y) (by with_unfolding_all rfl) (fun w' => ?_) (fun w' hw' => calls_below (nsize_any y w' h2 h3)) ?_); (focus (go_simp; done)); (try simp only [Act.put, List.setIfInBounds_toArray, List.set_cons_zero, List.set_cons_succ])) | ((refine wpB_call (.tuple #[.int .u64 0, .int .u64 z]) (by with_unfolding_all rfl) (fun w' => ?_) (fun w' hw' => calls_below (HM.out w')) ?_); (focus (go_simp; done)); (try simp only [Act.put, List.setIfInBounds_toArray, List.set_cons_zero, List.set_cons_succ])) |  ((with_reducible refine wpB_load (by first | exact F_int | exact F_u64s) (by with_unfolding_all rfl) (by with_unfolding_all rfl) (by assumption) (by with_unfolding_all rfl) ?_); (try simp only [Act.put, List.setIfInBounds_toArray, List.set_cons_zero, List.set_cons_succ])) | ((with_reducible refine wpB_loadS (n := 2) (us := #[_, _]) A_int (by kernel_rfl) (by with_unfolding_all rfl) (by with_unfolding_all rfl) (by assumption) (by with_unfolding_all rfl) (by with_unfolding_all rfl) ?_); (try simp only [Act.put, List.setIfInBounds_toArray, List.set_cons_zero, List.set_cons_succ])) | ((with_reducible refine wpB_loadS (n := 4) (us := #[_, _, _, _]) A_frac (by kernel_rfl) (by with_unfolding_all rfl) (by with_unfolding_all rfl) (by assumption) (by with_unfolding_all rfl) (by with_unfolding_all rfl) ?_); (try simp only [Act.put, List.setIfInBounds_toArray, List.set_cons_zero, List.set_cons_succ])) | ((refine wpQ_oneG ?_ (by with_unfolding_all rfl) (fun w' => ?_) ?_); rotate_left; (go_simp; rfl); (try simp only [Act.put, List.setIfInBounds_toArray, List.set_cons_zero, List.set_cons_succ])))
  refine wpQuiet_nil ?_
  intro w1 hb1
  replace hS := hS.mono hb1
  clear q1 q2
  have q1 := (hS.blk 1 rfl).1
  have q2 := (hS.blk 2 rfl).1
  go_wp2_with (first | (with_reducible refine wpList_ldB (by first | exact F_int | exact F_u64s) (by with_unfolding_all rfl) (by with_unfolding_all rfl) (by assumption) (by with_unfolding_all rfl) ?_) | ((with_reducible refine wpList_stoR (us := #[.int .i64 z, .slice none 0 0]) 0 (by with_unfolding_all rfl) (by with_unfolding_all rfl) (hS) (by with_unfolding_all rfl) (by kernel_rfl) (by with_unfolding_all rfl) (by with_unfolding_all rfl) ?_); intro w2 hS2))
  exact bodyPost_ret (results_cell rfl rfl A_int (by kernel_rfl) (hS2.blk 0 rfl).1) rfl ⟨rfl, hS2.b⟩

theorem FMul_any (a b c d : Int) (w : World) (a0 : 0 ≤ a) (a1 : a ≤ 4611686018427387904) (b0 : 0 < b) (b1 : b ≤ 4611686018427387904) (c0 : 0 ≤ c) (c1 : c ≤ 4611686018427387904) (d0 : 0 < d) (d1 : d ≤ 4611686018427387904) (hac : a * c ≤ 4611686018427387904) (hbd : b * d ≤ 4611686018427387904) :
    Calls Tryz.prog 105 #[fV a b, fV c d] w fun r w' => r = .returned (fV (a * c / Int.gcd (a * c) (b * d)) (b * d / Int.gcd (a * c) (b * d))) ∧ Below w.heap.size w w' := by
  have m0 : 0 ≤ a * c := Int.mul_nonneg a0 c0
  have m1 : 0 < b * d := Int.mul_pos b0 d0
  have HM := hid (fun w => Make_any (a * c) (b * d) w m0 hac m1 hbd)
  have HA := hid (fun w => IMul_any a c w a0 a1 c0 c1 hac)
  have HB := hid (fun w => IMul_any b d w (by omega) b1 (by omega) d1 hbd)
  obtain ⟨x, hx⟩ : ∃ x, x = a * c / Int.gcd (a * c) (b * d) := ⟨_, rfl⟩
  obtain ⟨y, hy⟩ : ∃ y, y = b * d / Int.gcd (a * c) (b * d) := ⟨_, rfl⟩
  rw [← hx, ← hy] at HM
  rw [← hx, ← hy]
  clear hx hy
  obtain ⟨p, hp⟩ : ∃ p, p = a * c := ⟨_, rfl⟩
  obtain ⟨q, hq⟩ : ∃ q, q = b * d := ⟨_, rfl⟩
  rw [← hp] at HM HA
  rw [← hq] at HM HB
  clear hp hq m0 m1 hac hbd
  go_enter Tryz.func105, Tryz.ntmps105
  go_wp2
  have hS := (((SL.nil w).box (.cells #[.int .i64 a, .slice none 0 0, .int .i64 b, .slice none 0 0] 156)).box (.cells #[.int .i64 c, .slice none 0 0, .int .i64 d, .slice none 0 0] 156)).box (.cells #[.int .i64 0, .slice none 0 0, .int .i64 0, .slice none 0 0] 156)
  simp only [World.size_alloc] at hS
  have q1 := (hS.blk 1 rfl).1
  have q2 := (hS.blk 2 rfl).1
  refine wp_region_qt 11 (by kernel_rfl) (by kernel_rfl) ?_
  simp only [List.take_succ_cons, List.take_zero, List.drop_succ_cons, List.drop_zero]
  repeat (first | ((refine wpB_call (iV p) (by with_unfolding_all rfl) (fun w' => ?_) (fun w' hw' => HA.out w') ?_); (focus (go_simp; done)); (try simp only [Act.put, List.setIfInBounds_toArray, List.set_cons_zero, List.set_cons_succ])) | ((refine wpB_call (iV q) (by with_unfolding_all rfl) (fun w' => ?_) (fun w' hw' => HB.out w') ?_); (focus (go_simp; done)); (try simp only [Act.put, List.setIfInBounds_toArray, List.set_cons_zero, List.set_cons_succ])) | ((refine wpB_call (fV x y) (by with_unfolding_all rfl) (fun w' => ?_) (fun w' hw' => HM.out w') ?_); (focus (go_simp; done)); (try simp only [Act.put, List.setIfInBounds_toArray, List.set_cons_zero, List.set_cons_succ])) |  ((with_reducible refine wpB_load (by first | exact F_int | exact F_u64s) (by with_unfolding_all rfl) (by with_unfolding_all rfl) (by assumption) (by with_unfolding_all rfl) ?_); (try simp only [Act.put, List.setIfInBounds_toArray, List.set_cons_zero, List.set_cons_succ])) | ((with_reducible refine wpB_loadS (n := 2) (us := #[_, _]) A_int (by kernel_rfl) (by with_unfolding_all rfl) (by with_unfolding_all rfl) (by assumption) (by with_unfolding_all rfl) (by with_unfolding_all rfl) ?_); (try simp only [Act.put, List.setIfInBounds_toArray, List.set_cons_zero, List.set_cons_succ])) | ((with_reducible refine wpB_loadS (n := 4) (us := #[_, _, _, _]) A_frac (by kernel_rfl) (by with_unfolding_all rfl) (by with_unfolding_all rfl) (by assumption) (by with_unfolding_all rfl) (by with_unfolding_all rfl) ?_); (try simp only [Act.put, List.setIfInBounds_toArray, List.set_cons_zero, List.set_cons_succ])) | ((refine wpQ_oneG ?_ (by with_unfolding_all rfl) (fun w' => ?_) ?_); rotate_left; (go_simp; rfl); (try simp only [Act.put, List.setIfInBounds_toArray, List.set_cons_zero, List.set_cons_succ])))
  refine wpQuiet_nil ?_
  intro w1 hb1
  replace hS := hS.mono hb1
  go_wp2_with ((with_reducible refine wpList_stoR (us := #[.int .i64 x, .slice none 0 0, .int .i64 y, .slice none 0 0]) 0 (by with_unfolding_all rfl) (by with_unfolding_all rfl) (hS) (by with_unfolding_all rfl) (by kernel_rfl) (by with_unfolding_all rfl) (by with_unfolding_all rfl) ?_); intro w2 hS2)
  exact bodyPost_ret (results_cell rfl rfl A_frac (by kernel_rfl) (hS2.blk 0 rfl).1) rfl ⟨rfl, hS2.b⟩
end Go.Proofs.YtmomeggnegcheaaGreatDoor
