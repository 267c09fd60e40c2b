/- Contracts: quotients of small fractions and their texts of package num. Conditions: the numbers are below the bounds stated. -/
import Derived.Test.YtogbclcnmogaeaaGreatDoorNuA
import Derived.Test.YtogbclcnmogaeaaGreatDoorTxA
set_option linter.all false
namespace Go.Proofs.YtogbclcnmogaeaaGreatDoor
open Go.RowKit Go.Shelf
set_option maxHeartbeats 1000000
set_option maxRecDepth 100000

theorem FDiv_any (p n : Int) (w : World) (p0 : 0 ≤ p) (p1 : p ≤ 4611686018427387904) (n0 : 0 < n) (n1 : n ≤ 4611686018427387904) :
    Calls Tryz.prog 165 #[fV p 1, fV n 1] w fun r w' => r = .returned (fV (p / Int.gcd p n) (n / Int.gcd p n)) ∧ Below w.heap.size w w' := by
  have h1 := fun w => Inv_any n 1 w n0 n1 (by decide) (by decide)
  have e : Int.gcd 1 n = 1 := by simp
  rw [e] at h1
  have e2 : (1 : Int) / ((1 : Nat) : Int) = 1 := by decide
  have e3 : n / ((1 : Nat) : Int) = n := by simp
  rw [e2, e3] at h1
  have HI := hid h1; clear h1 e e2 e3
  have h2 := fun w => FMul_any p 1 1 n w p0 p1 (by decide) (by decide) (by decide) (by decide) n0 n1 (by omega) (by omega)
  rw [Int.mul_one, Int.one_mul] at h2
  have HM := hid h2; clear h2
  obtain ⟨x, hx⟩ : ∃ x, x = p / Int.gcd p n := ⟨_, rfl⟩
  obtain ⟨y, hy⟩ : ∃ y, y = n / Int.gcd p n := ⟨_, rfl⟩
  rw [← hx, ← hy] at HM
  rw [← hx, ← hy]
  clear hx hy
  go_enter Tryz.func165, Tryz.ntmps165
  go_wp2
  have hS := (((SL.nil w).box (.cells #[.int .i64 p, .slice none 0 0, .int .i64 1, .slice none 0 0] 203)).box (.cells #[.int .i64 n, .slice none 0 0, .int .i64 1, .slice none 0 0] 203)).box (.cells #[.int .i64 0, .slice none 0 0, .int .i64 0, .slice none 0 0] 203)
  simp only [World.size_alloc] at hS
  have q1 := (hS.blk 1 rfl).1
  have q2 := (hS.blk 2 rfl).1
  refine wp_region_qt 4 (by kernel_rfl) (by kernel_rfl) ?_
  simp only [List.take_succ_cons, List.take_zero, List.drop_succ_cons, List.drop_zero]
  repeat (first | ((refine wpB_call (fV 1 n) (by with_unfolding_all rfl) (fun w' => ?_) (fun w' hw' => HI.out w') ?_); (focus (go_simp; done)); (try simp only [Act.put, List.setIfInBounds_toArray, List.set_cons_zero, List.set_cons_succ])) | ((refine wpB_call (fV x y) (by with_unfolding_all rfl) (fun w' => ?_) (fun w' hw' => HM.out w') ?_); (focus (go_simp; done)); (try simp only [Act.put, List.setIfInBounds_toArray, List.set_cons_zero, List.set_cons_succ])) |  ((with_reducible refine wpB_load (by first | exact F_int | exact F_u64s) (by with_unfolding_all rfl) (by with_unfolding_all rfl) (by assumption) (by with_unfolding_all rfl) ?_); (try simp only [Act.put, List.setIfInBounds_toArray, List.set_cons_zero, List.set_cons_succ])) | ((with_reducible refine wpB_loadS (n := 2) (us := #[_, _]) A_int (by kernel_rfl) (by with_unfolding_all rfl) (by with_unfolding_all rfl) (by assumption) (by with_unfolding_all rfl) (by with_unfolding_all rfl) ?_); (try simp only [Act.put, List.setIfInBounds_toArray, List.set_cons_zero, List.set_cons_succ])) | ((with_reducible refine wpB_loadS (n := 4) (us := #[_, _, _, _]) A_frac (by kernel_rfl) (by with_unfolding_all rfl) (by with_unfolding_all rfl) (by assumption) (by with_unfolding_all rfl) (by with_unfolding_all rfl) ?_); (try simp only [Act.put, List.setIfInBounds_toArray, List.set_cons_zero, List.set_cons_succ])) | ((refine wpQ_oneG ?_ (by with_unfolding_all rfl) (fun w' => ?_) ?_); rotate_left; (go_simp; rfl); (try simp only [Act.put, List.setIfInBounds_toArray, List.set_cons_zero, List.set_cons_succ])))
  refine wpQuiet_nil ?_
  intro w1 hb1
  replace hS := hS.mono hb1
  go_wp2_with ((with_reducible refine wpList_stoR (us := #[.int .i64 x, .slice none 0 0, .int .i64 y, .slice none 0 0]) 0 (by with_unfolding_all rfl) (by with_unfolding_all rfl) (hS) (by with_unfolding_all rfl) (by kernel_rfl) (by with_unfolding_all rfl) (by with_unfolding_all rfl) ?_); intro w2 hS2)
  exact bodyPost_ret (results_cell rfl rfl A_frac (by kernel_rfl) (hS2.blk 0 rfl).1) rfl ⟨rfl, hS2.b⟩

abbrev cU64 (x : Int) : Value := .int .u64 x
theorem cU641 (x : Int) : (cU64 x).cells = #[cU64 x] := rfl
theorem cU64S (x : Int) : (cU64 x).cells.size = 1 := rfl
theorem E_u64s : ETy Tryz.prog 199 252 (.int .u64 0) 1 8 := ⟨Tryz.underlying199, by kernel_rfl, rfl, by decide⟩
theorem F_u64 : Flat Tryz.prog 252 := ⟨_, Tryz.underlying252, rfl⟩
theorem parts_any (n : Int) (w : World) (h0 : 0 < n) (h1 : n ≤ 4611686018427387904) :
    Calls Tryz.prog 245 #[iV n] w fun r w' => ∃ v, r = .returned (.tuple #[.bool false, v]) ∧ SL w.heap.size w w' [pOwn cU64 1 252 v [n]] := by
  have hne : (n == 0) = false := by simp; omega
  have hn0 : ¬ n < 0 := by omega
  have hn1 : decide (n < 0) = false := by simp; omega
  have heq := fun (w : World) (a : Option Addr) (n c : Nat) => run_neq_slice_nil_any (P := Tryz.prog) w 199 252 a n c 0 0 Tryz.underlying199
  go_enter Tryz.func245, Tryz.ntmps245
  go_wp2
  have hS := ((SL.nil w).box (.cells #[.int .i64 n, .slice none 0 0] 201))
  have q1 := (hS.blk 0 rfl).1
  go_region_with (go_at_call 244; refine (nsize_any n _ (by omega) h1).mono ?_; rintro e w' ⟨rfl, rfl⟩)
  all_goals go_wp2
  all_goals go_ret2
  all_goals exact ⟨_, rfl, (SL.ofOwn (own_newN (w := w.alloc (.cells #[.int .i64 n, .slice none 0 0] 201)) cU64S [n] 1 rfl (by decide) #[cU64 n] (by simp) (by simp) rfl) (bal (bal (Below.refl _ _) _) _)).drew⟩

theorem Bits_any (n : Int) (w : World) (h0 : 0 < n) (h1 : n ≤ 4611686018427387904) :
    Calls Tryz.prog 274 #[iV n] w fun r w' => r = .returned (.int .i64 (Lib.bitLen n.toNat)) ∧ Below w.heap.size w w' := by
  have hbl := Lib.bitLen_le n.toNat 64 (by decide) (by omega)
  have HL := hid (fun w => Any.bits_Len64 { Tryz.lays171 with } n w (by omega) (by omega))
  obtain ⟨z, hz⟩ : ∃ z, z = Lib.bitLen n.toNat := ⟨_, rfl⟩
  rw [← hz] at HL hbl ⊢
  clear hz
  go_enter Tryz.func274, Tryz.ntmps274
  go_wp2_with fail
  refine (parts_any n _ h0 h1).mono ?_
  rintro e w1 ⟨v, rfl, hK⟩
  obtain ⟨a1, c1, rfl, hR⟩ := hK.slice 0 rfl
  have hR0 := hR.cells (by decide) 0 0 (by simp)
  obtain ⟨bb, oo, rfl, hcx⟩ := hR0
  have hcx := hcx 0 (cU64 n) rfl
  simp only [Nat.zero_mul, Nat.add_zero] at hcx
  have hb1 := hK.b
  clear hR hK
  go_wp2_with fail
  refine (HL.out _).mono ?_
  rintro e w2 ⟨rfl, rfl⟩
  go_wp2_with fail
  go_ret
  exact ⟨by congr 2, bnext (bal (Below.refl _ _) _) hb1⟩

theorem long_any (n : Int) (w : World) (h0 : 0 < n) (h1 : n ≤ 4611686018427387904) :
    Calls Tryz.prog 248 #[iV n] w fun r w' => r = .returned (.bool false) ∧ Below w.heap.size w w' := by
  have hbl := Lib.bitLen_le n.toNat 64 (by decide) (by omega)
  have HL := hid (fun w => Bits_any n w h0 h1)
  obtain ⟨z, hz⟩ : ∃ z, z = Lib.bitLen n.toNat := ⟨_, rfl⟩
  rw [← hz] at HL hbl
  clear hz
  have hd : decide ((1800 : Int) < z) = false := by simp; omega
  go_enter Tryz.func248, Tryz.ntmps248
  go_wp2_with fail
  refine (HL.out _).mono ?_
  rintro e w1 ⟨rfl, hb1⟩
  go_wp2_with fail
  go_ret
  exact ⟨rfl, bnext (bal (Below.refl _ _) _) hb1⟩

theorem Large_any (p q : Int) (w : World) (h0 : 0 < p) (h1 : p ≤ 4611686018427387904) (h2 : 0 < q) (h3 : q ≤ 4611686018427387904) :
    Calls Tryz.prog 212 #[fV p q] w fun r w' => r = .returned (.bool false) ∧ Below w.heap.size w w' := by
  have HP := hid (fun w => long_any p w h0 h1)
  have HQ := hid (fun w => long_any q w h2 h3)
  go_enter Tryz.func212, Tryz.ntmps212
  go_wp2_with fail
  refine (HP.out _).mono ?_
  rintro e w1 ⟨rfl, hb1⟩
  have hS := ((SL.nil w).box (.cells #[.int .i64 p, .slice none 0 0, .int .i64 q, .slice none 0 0] 203)).mono hb1
  have q1 := (hS.blk 0 rfl).1
  go_wp2_with (with_reducible refine wpList_ldS (n := 2) (us := #[_, _]) A_int (by kernel_rfl) (by with_unfolding_all rfl) (by with_unfolding_all rfl) (by assumption) (by with_unfolding_all rfl) (by with_unfolding_all rfl) ?_)
  refine (HQ.out _).mono ?_
  rintro e w2 ⟨rfl, hb2⟩
  go_wp2_with fail
  go_ret
  exact ⟨rfl, (hS.mono hb2).b⟩

theorem IsWhole_any (p : Int) (w : World) :
    Calls Tryz.prog 249 #[fV p 1] w fun r w' => r = .returned (.bool true) ∧ Below w.heap.size w w' := by
  have heq := fun (w : World) (a : Option Addr) (n c : Nat) => Lib.run_eql_slice_nil (P := Tryz.prog) w 199 252 a n c 0 0 Tryz.underlying199
  go_enter Tryz.func249, Tryz.ntmps249
  go_wp2
  go_ret
  exact ⟨rfl, bal (Below.refl _ _) _⟩

theorem String_any (n : Int) (w : World) (hI : ItoaOk w n) :
    Calls Tryz.prog 250 #[iV n] w fun r w' => r = .returned (.string (itoaB n)) ∧ Below w.heap.size w w' := by
  have HI := hid (hI _ (bal (Below.refl _ w) (.cells #[.int .i64 n, .slice none 0 0] 201)))
  have heq := fun (w : World) (a : Option Addr) (n c : Nat) => Lib.run_eql_slice_nil (P := Tryz.prog) w 199 252 a n c 0 0 Tryz.underlying199
  go_enter Tryz.func250, Tryz.ntmps250
  go_wp2_with fail
  refine HI.out.mono ?_
  rintro e w1 ⟨rfl, hb1⟩
  go_wp2_with fail
  go_ret
  exact ⟨rfl, bnext (bal (Below.refl _ _) _) hb1⟩
end Go.Proofs.YtogbclcnmogaeaaGreatDoor
