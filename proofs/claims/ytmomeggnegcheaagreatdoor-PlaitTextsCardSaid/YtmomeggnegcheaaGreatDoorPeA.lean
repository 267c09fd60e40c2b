/- Contracts: quotients of small fractions and their texts of package num. Conditions: the numbers are below the bounds stated. Contract: Period. Conditions: the slice can be read; it has at most 64 numbers, which fit an int; Itoa answers at the period. -/
import Derived.Test.YtmomeggnegcheaaGreatDoorNuA
import Derived.Test.YtmomeggnegcheaaGreatDoorTxA
import Derived.Test.YtmomeggnegcheaaGreatDoorCyA
set_option linter.all false
/- Contracts: quotients of small fractions and their texts of package num. Conditions: the numbers are below the bounds stated. -/
namespace Go.Proofs.YtmomeggnegcheaaGreatDoor
open Go.RowKit Go.Shelf
set_option maxHeartbeats 1000000
set_option maxRecDepth 100000

theorem FDiv_any (p n : Int) (w : World) (p0 : 0 ≤ p) (p1 : p ≤ 4611686018427387904) (n0 : 0 < n) (n1 : n ≤ 4611686018427387904) :
    Calls Tryz.prog 104 #[fV p 1, fV n 1] w fun r w' => r = .returned (fV (p / Int.gcd p n) (n / Int.gcd p n)) ∧ Below w.heap.size w w' := by
  have h1 := fun w => Inv_any n 1 w n0 n1 (by decide) (by decide)
  have e : Int.gcd 1 n = 1 := by simp
  rw [e] at h1
  have e2 : (1 : Int) / ((1 : Nat) : Int) = 1 := by decide
  have e3 : n / ((1 : Nat) : Int) = n := by simp
  rw [e2, e3] at h1
  have HI := hid h1; clear h1 e e2 e3
  have h2 := fun w => FMul_any p 1 1 n w p0 p1 (by decide) (by decide) (by decide) (by decide) n0 n1 (by omega) (by omega)
  rw [Int.mul_one, Int.one_mul] at h2
  have HM := hid h2; clear h2
  obtain ⟨x, hx⟩ : ∃ x, x = p / Int.gcd p n := ⟨_, rfl⟩
  obtain ⟨y, hy⟩ : ∃ y, y = n / Int.gcd p n := ⟨_, rfl⟩
  rw [← hx, ← hy] at HM
  rw [← hx, ← hy]
  clear hx hy
  go_enter Tryz.func104, Tryz.ntmps104
  go_wp2
  have hS := (((SL.nil w).box (.cells #[.int .i64 p, .slice none 0 0, .int .i64 1, .slice none 0 0] 156)).box (.cells #[.int .i64 n, .slice none 0 0, .int .i64 1, .slice none 0 0] 156)).box (.cells #[.int .i64 0, .slice none 0 0, .int .i64 0, .slice none 0 0] 156)
  simp only [World.size_alloc] at hS
  have q1 := (hS.blk 1 rfl).1
  have q2 := (hS.blk 2 rfl).1
  refine wp_region_qt 4 (by kernel_rfl) (by kernel_rfl) ?_
  simp only [List.take_succ_cons, List.take_zero, List.drop_succ_cons, List.drop_zero]
  repeat (first | ((refine wpB_call (fV 1 n) (by with_unfolding_all rfl) (fun w' => ?_) (fun w' hw' => HI.out w') ?_); (focus (go_simp; done)); (try simp only [Act.put, List.setIfInBounds_toArray, List.set_cons_zero, List.set_cons_succ])) | ((refine wpB_call (fV x y) (by with_unfolding_all rfl) (fun w' => ?_) (fun w' hw' => HM.out w') ?_); (focus (go_simp; done)); (try simp only [Act.put, List.setIfInBounds_toArray, List.set_cons_zero, List.set_cons_succ])) |  ((with_reducible refine wpB_load (by first | exact F_int | exact F_u64s) (by with_unfolding_all rfl) (by with_unfolding_all rfl) (by assumption) (by with_unfolding_all rfl) ?_); (try simp only [Act.put, List.setIfInBounds_toArray, List.set_cons_zero, List.set_cons_succ])) | ((with_reducible refine wpB_loadS (n := 2) (us := #[_, _]) A_int (by kernel_rfl) (by with_unfolding_all rfl) (by with_unfolding_all rfl) (by assumption) (by with_unfolding_all rfl) (by with_unfolding_all rfl) ?_); (try simp only [Act.put, List.setIfInBounds_toArray, List.set_cons_zero, List.set_cons_succ])) | ((with_reducible refine wpB_loadS (n := 4) (us := #[_, _, _, _]) A_frac (by kernel_rfl) (by with_unfolding_all rfl) (by with_unfolding_all rfl) (by assumption) (by with_unfolding_all rfl) (by with_unfolding_all rfl) ?_); (try simp only [Act.put, List.setIfInBounds_toArray, List.set_cons_zero, List.set_cons_succ])) | ((refine wpQ_oneG ?_ (by with_unfolding_all rfl) (fun w' => ?_) ?_); rotate_left; (go_simp; rfl); (try simp only [Act.put, List.setIfInBounds_toArray, List.set_cons_zero, List.set_cons_succ])))
  refine wpQuiet_nil ?_
  intro w1 hb1
  replace hS := hS.mono hb1
  go_wp2_with ((with_reducible refine wpList_stoR (us := #[.int .i64 x, .slice none 0 0, .int .i64 y, .slice none 0 0]) 0 (by with_unfolding_all rfl) (by with_unfolding_all rfl) (hS) (by with_unfolding_all rfl) (by kernel_rfl) (by with_unfolding_all rfl) (by with_unfolding_all rfl) ?_); intro w2 hS2)
  exact bodyPost_ret (results_cell rfl rfl A_frac (by kernel_rfl) (hS2.blk 0 rfl).1) rfl ⟨rfl, hS2.b⟩

abbrev cU64 (x : Int) : Value := .int .u64 x
theorem cU641 (x : Int) : (cU64 x).cells = #[cU64 x] := rfl
theorem cU64S (x : Int) : (cU64 x).cells.size = 1 := rfl
theorem E_u64s : ETy Tryz.prog 152 224 (.int .u64 0) 1 8 := ⟨Tryz.underlying152, by kernel_rfl, rfl, by decide⟩
theorem F_u64 : Flat Tryz.prog 224 := ⟨_, Tryz.underlying224, rfl⟩
theorem parts_any (n : Int) (w : World) (h0 : 0 < n) (h1 : n ≤ 4611686018427387904) :
    Calls Tryz.prog 189 #[iV n] w fun r w' => ∃ v, r = .returned (.tuple #[.bool false, v]) ∧ SL w.heap.size w w' [pOwn cU64 1 224 v [n]] := by
  have hne : (n == 0) = false := by simp; omega
  have hn0 : ¬ n < 0 := by omega
  have hn1 : decide (n < 0) = false := by simp; omega
  have heq := fun (w : World) (a : Option Addr) (n c : Nat) => run_neq_slice_nil_any (P := Tryz.prog) w 152 224 a n c 0 0 Tryz.underlying152
  go_enter Tryz.func189, Tryz.ntmps189
  go_wp2
  have hS := ((SL.nil w).box (.cells #[.int .i64 n, .slice none 0 0] 154))
  have q1 := (hS.blk 0 rfl).1
  go_region_with (go_at_call 188; refine (nsize_any n _ (by omega) h1).mono ?_; rintro e w' ⟨rfl, rfl⟩)
  all_goals go_wp2
  all_goals go_ret2
  all_goals exact ⟨_, rfl, (SL.ofOwn (own_newN (w := w.alloc (.cells #[.int .i64 n, .slice none 0 0] 154)) cU64S [n] 1 rfl (by decide) #[cU64 n] (by simp) (by simp) rfl) (bal (bal (Below.refl _ _) _) _)).drew⟩

theorem Bits_any (n : Int) (w : World) (h0 : 0 < n) (h1 : n ≤ 4611686018427387904) :
    Calls Tryz.prog 219 #[iV n] w fun r w' => r = .returned (.int .i64 (Lib.bitLen n.toNat)) ∧ Below w.heap.size w w' := by
  have hbl := Lib.bitLen_le n.toNat 64 (by decide) (by omega)
  have HL := hid (fun w => Any.bits_Len64 { Tryz.lays171 with } n w (by omega) (by omega))
  obtain ⟨z, hz⟩ : ∃ z, z = Lib.bitLen n.toNat := ⟨_, rfl⟩
  rw [← hz] at HL hbl ⊢
  clear hz
  go_enter Tryz.func219, Tryz.ntmps219
  go_wp2_with fail
  refine (parts_any n _ h0 h1).mono ?_
  rintro e w1 ⟨v, rfl, hK⟩
  obtain ⟨a1, c1, rfl, hR⟩ := hK.slice 0 rfl
  have hR0 := hR.cells (by decide) 0 0 (by simp)
  obtain ⟨bb, oo, rfl, hcx⟩ := hR0
  have hcx := hcx 0 (cU64 n) rfl
  simp only [Nat.zero_mul, Nat.add_zero] at hcx
  have hb1 := hK.b
  clear hR hK
  go_wp2_with fail
  refine (HL.out _).mono ?_
  rintro e w2 ⟨rfl, rfl⟩
  go_wp2_with fail
  go_ret
  exact ⟨by congr 2, bnext (bal (Below.refl _ _) _) hb1⟩

theorem long_any (n : Int) (w : World) (h0 : 0 < n) (h1 : n ≤ 4611686018427387904) :
    Calls Tryz.prog 192 #[iV n] w fun r w' => r = .returned (.bool false) ∧ Below w.heap.size w w' := by
  have hbl := Lib.bitLen_le n.toNat 64 (by decide) (by omega)
  have HL := hid (fun w => Bits_any n w h0 h1)
  obtain ⟨z, hz⟩ : ∃ z, z = Lib.bitLen n.toNat := ⟨_, rfl⟩
  rw [← hz] at HL hbl
  clear hz
  have hd : decide ((1800 : Int) < z) = false := by simp; omega
  go_enter Tryz.func192, Tryz.ntmps192
  go_wp2_with fail
  refine (HL.out _).mono ?_
  rintro e w1 ⟨rfl, hb1⟩
  go_wp2_with fail
  go_ret
  exact ⟨rfl, bnext (bal (Below.refl _ _) _) hb1⟩

theorem Large_any (p q : Int) (w : World) (h0 : 0 < p) (h1 : p ≤ 4611686018427387904) (h2 : 0 < q) (h3 : q ≤ 4611686018427387904) :
    Calls Tryz.prog 152 #[fV p q] w fun r w' => r = .returned (.bool false) ∧ Below w.heap.size w w' := by
  have HP := hid (fun w => long_any p w h0 h1)
  have HQ := hid (fun w => long_any q w h2 h3)
  go_enter Tryz.func152, Tryz.ntmps152
  go_wp2_with fail
  refine (HP.out _).mono ?_
  rintro e w1 ⟨rfl, hb1⟩
  have hS := ((SL.nil w).box (.cells #[.int .i64 p, .slice none 0 0, .int .i64 q, .slice none 0 0] 156)).mono hb1
  have q1 := (hS.blk 0 rfl).1
  go_wp2_with (with_reducible refine wpList_ldS (n := 2) (us := #[_, _]) A_int (by kernel_rfl) (by with_unfolding_all rfl) (by with_unfolding_all rfl) (by assumption) (by with_unfolding_all rfl) (by with_unfolding_all rfl) ?_)
  refine (HQ.out _).mono ?_
  rintro e w2 ⟨rfl, hb2⟩
  go_wp2_with fail
  go_ret
  exact ⟨rfl, (hS.mono hb2).b⟩

theorem IsWhole_any (p : Int) (w : World) :
    Calls Tryz.prog 193 #[fV p 1] w fun r w' => r = .returned (.bool true) ∧ Below w.heap.size w w' := by
  have heq := fun (w : World) (a : Option Addr) (n c : Nat) => Lib.run_eql_slice_nil (P := Tryz.prog) w 152 224 a n c 0 0 Tryz.underlying152
  go_enter Tryz.func193, Tryz.ntmps193
  go_wp2
  go_ret
  exact ⟨rfl, bal (Below.refl _ _) _⟩

theorem String_any (n : Int) (w : World) (hI : ItoaOk w n) :
    Calls Tryz.prog 194 #[iV n] w fun r w' => r = .returned (.string (itoaB n)) ∧ Below w.heap.size w w' := by
  have HI := hid (hI _ (bal (Below.refl _ w) (.cells #[.int .i64 n, .slice none 0 0] 154)))
  have heq := fun (w : World) (a : Option Addr) (n c : Nat) => Lib.run_eql_slice_nil (P := Tryz.prog) w 152 224 a n c 0 0 Tryz.underlying152
  go_enter Tryz.func194, Tryz.ntmps194
  go_wp2_with fail
  refine HI.out.mono ?_
  rintro e w1 ⟨rfl, hb1⟩
  go_wp2_with fail
  go_ret
  exact ⟨rfl, bnext (bal (Below.refl _ _) _) hb1⟩
end Go.Proofs.YtmomeggnegcheaaGreatDoor

/- Contract: Period. Conditions: the slice can be read; it has at most 64 numbers, which fit an int; Itoa answers at the period. -/
namespace Go.Proofs.YtmomeggnegcheaaGreatDoor
open Go.RowKit Go.Shelf
set_option maxHeartbeats 1000000
set_option maxRecDepth 100000

theorem Text_any (n : Int) (w : World) (hI : ItoaOk w n) :
    Calls Tryz.prog 153 #[fV n 1] w fun r w' => r = .returned (.string (itoaB n)) ∧ Below w.heap.size w w' := by
  have HW := hid (fun w => IsWhole_any n w)
  have HI := hid hI; clear hI
  go_enter Tryz.func153, Tryz.ntmps153
  go_wp2_with fail
  refine (HW.out _).mono ?_
  rintro e w1 ⟨rfl, hb1⟩
  have hS := ((SL.nil w).box (.cells #[.int .i64 n, .slice none 0 0, .int .i64 1, .slice none 0 0] 156)).mono hb1
  have q1 := (hS.blk 0 rfl).1
  go_wp2_with (with_reducible refine wpList_ldS (n := 2) (us := #[_, _]) A_int (by kernel_rfl) (by with_unfolding_all rfl) (by with_unfolding_all rfl) (by assumption) (by with_unfolding_all rfl) (by with_unfolding_all rfl) ?_)
  refine (String_any n _ (HI.out.below hS.b)).mono ?_
  rintro e w2 ⟨rfl, hb2⟩
  go_wp2_with fail
  go_ret
  exact ⟨rfl, (hS.mono hb2).b⟩

theorem result_any (n : Int) (w : World) (h0 : 0 < n) (h1 : n ≤ 4611686018427387904) (hI : ItoaOk w n) :
    Calls Tryz.prog 106 #[fV n 1] w fun r w' => r = .returned (.tuple #[.string (itoaB n), .int .i64 0]) ∧ Below w.heap.size w w' := by
  have HL := hid (fun w => Large_any n 1 w h0 h1 (by decide) (by decide))
  have HI := hid hI; clear hI
  go_enter Tryz.func106, Tryz.ntmps106
  go_wp2_with fail
  refine (HL.out _).mono ?_
  rintro e w1 ⟨rfl, hb1⟩
  have hS := ((SL.nil w).box (.cells #[.int .i64 n, .slice none 0 0, .int .i64 1, .slice none 0 0] 156)).mono hb1
  have q1 := (hS.blk 0 rfl).1
  go_wp2_with (with_reducible refine wpList_ldS (n := 4) (us := #[_, _, _, _]) A_frac (by kernel_rfl) (by with_unfolding_all rfl) (by with_unfolding_all rfl) (by assumption) (by with_unfolding_all rfl) (by with_unfolding_all rfl) ?_)
  refine (Text_any n _ (HI.out.below hS.b)).mono ?_
  rintro e w2 ⟨rfl, hb2⟩
  go_wp2_with fail
  go_ret2
  exact ⟨rfl, (hS.mono hb2).b⟩

def lensQ (qs : List (SlH × List Int)) : List Nat := qs.map fun q => q.2.length
def perS (p : List Int) : ByteArray := if permE p = 0 then itoaB (periodN p) else ⟨#[]⟩

/-- one step of the least common multiple, in small fractions. -/
theorem step_any (p n : Nat) (hp0 : 0 < p) (hp : p ≤ 34359738368) (hn0 : 0 < n) (hn : n ≤ 64) (w : World) :
    (Calls Tryz.prog 104 #[fV p 1, fV n 1] w fun r w' => r = .returned (fV ((p / Nat.gcd p n : Nat) : Int) ((n / Nat.gcd p n : Nat) : Int)) ∧ Below w.heap.size w w') ∧
    (Calls Tryz.prog 105 #[fV ((p / Nat.gcd p n : Nat) : Int) 1, fV n 1] w fun r w' => r = .returned (fV ((lcmF p n : Nat) : Int) 1) ∧ Below w.heap.size w w') := by
  have e1 : ((p / Nat.gcd p n : Nat) : Int) = (p : Int) / (Int.gcd p n : Int) := by rw [Int.natCast_ediv]; rfl
  have e2 : ((n / Nat.gcd p n : Nat) : Int) = (n : Int) / (Int.gcd p n : Int) := by rw [Int.natCast_ediv]; rfl
  refine ⟨?_, ?_⟩
  · rw [e1, e2]
    exact FDiv_any p n w (by omega) (by omega) (by omega) (by omega)
  · have hq : p / Nat.gcd p n ≤ p := Nat.div_le_self _ _
    unfold lcmF
    clear e1 e2
    generalize p / Nat.gcd p n = q at *
    have hl : q * n ≤ p * 64 := Nat.mul_le_mul hq hn
    have hqn : (q : Int) * (n : Int) = ((q * n : Nat) : Int) := (Int.natCast_mul _ _).symm
    have h := FMul_any (q : Int) 1 (n : Int) 1 w (by omega) (by omega) (by decide) (by decide) (by omega) (by omega) (by decide) (by decide) (by rw [hqn]; omega) (by decide)
    have e3 : Int.gcd ((q : Int) * (n : Int)) (1 * 1) = 1 := by simp
    rw [e3, hqn] at h
    have e4 : ((q * n : Nat) : Int) / ((1 : Nat) : Int) = ((q * n : Nat) : Int) := by simp
    rw [e4] at h
    exact h

theorem lens_len (qs : List (SlH × List Int)) : (lensQ qs).length = qs.length := by simp [lensQ]
theorem perF_take {ls : List Nat} {k : Nat} (h : k < ls.length) : perF (ls.take (k + 1)) = lcmF (perF (ls.take k)) ls[k] := by
  rw [List.take_succ_eq_append_getElem h, perF_snoc]
theorem sum_take_le : ∀ (ls : List Nat) (k : Nat), (ls.take k).sum ≤ ls.sum
  | [], k => by simp
  | x :: r, 0 => by simp
  | x :: r, k + 1 => by have := sum_take_le r k; simp; omega

theorem Period_any (a : Option Addr) (cap : Nat) (p : List Int) (w : World) (hS : Ints w a cap p) (hI : ∀ x ∈ p, InI x) (h64 : p.length ≤ 64) (hIt : permE p = 0 → ItoaOk w (periodN p)) :
    Calls Tryz.prog 53 #[.slice a p.length cap] w fun r w' => r = .returned (.tuple #[.string (perS p), .int .i64 (permE p)]) ∧ Below w.heap.size w w' := by
  have HC := hid (CheckPerm_any a cap p w hS hI)
  by_cases h : permE p = 0
  · have hp := isP_of h
    have hit := hIt h
    have e0 : perS p = itoaB (periodN p) := by unfold perS; rw [if_pos h]
    have hc := HC.out
    rw [h] at hc
    rw [e0, h]
    clear HC e0
    have HC := hid hc; clear hc
    have HIT := hid hit; clear hit hIt
    have hcap := hS.le
    clear h
    go_enter Tryz.func53, Tryz.ntmps53
    go_wp2_with fail
    refine HC.out.mono ?_
    rintro e w1 ⟨rfl, hb1⟩
    go_wp2_with fail
    refine (F_any 1 _).mono ?_
    rintro e w2 ⟨rfl, hb2⟩
    go_wp2_with fail
    have hS0 := (((SL.nil w).mono hb1).mono hb2).box (.cells #[.int .i64 1, .slice none 0 0, .int .i64 1, .slice none 0 0] 156)
    refine (cycles_any a cap p _ (hS.below hS0.b) hp (by omega)).mono ?_
    rintro e w3 ⟨v, qs, rfl, hqs, hK⟩
    replace hS0 := hS0.call hK
    clear hK
    obtain ⟨av, cv, rfl, _⟩ := hS0.slice 0 rfl
    go_wp2_with fail
    have hlq : lensQ qs = (cycK p p.length).map List.length := by rw [← hqs]; simp [lensQ]
    have hsum : (lensQ qs).sum ≤ 64 := by rw [hlq]; exact Nat.le_trans (cycK_sum hp (Nat.le_refl _)) h64
    have hpos : ∀ n ∈ lensQ qs, 0 < n := by
      rw [hlq]; intro n hn
      obtain ⟨l, hl, rfl⟩ := List.mem_map.1 hn
      exact cycK_pos hp (Nat.le_refl _) l hl
    have hper : periodN p = perF (lensQ qs) := by rw [hlq]; rfl
    have hnq : qs.length ≤ 64 := by
      have h1 := cycK_len p p.length
      have h2 : (lensQ qs).length = (cycK p p.length).length := by rw [hlq]; simp
      rw [lens_len] at h2; omega
    have HPER := hid hper; clear hper
    have HPOS := hid hpos; clear hpos
    clear hlq hqs
    have HQL : Hid ((qs.map Prod.fst).length = qs.length) := hid (by simp)
    obtain ⟨H, hH⟩ : ∃ H, H = w2.heap.size := ⟨_, rfl⟩
    rw [← hH] at hS0 ⊢
    clear hH
    go_loopw [7, 8, 18] (fun _ _ i wr => ∃ k : Nat, k ≤ qs.length ∧ i = .int .i64 k ∧
      SL w.heap.size w wr (pBlk H (.cells #[.int .i64 (perF ((lensQ qs).take k)), .slice none 0 0, .int .i64 1, .slice none 0 0] 156) :: pOwn cSl 1 22 (.slice av qs.length cv) (qs.map Prod.fst) :: qs.map inP)) (fun _ _ i _ => qs.length - (intOf i).toNat)
    case atStart => exact ⟨0, by omega, rfl, SL.comm (K := pOwn cSl 1 22 (.slice av qs.length cv) (qs.map Prod.fst) :: qs.map inP) (L := [pBlk H (.cells #[.int .i64 1, .slice none 0 0, .int .i64 1, .slice none 0 0] 156)]) (by simpa using hS0)⟩
    case round =>
      obtain ⟨k, hk, rfl, hSr⟩ := hrel
      have hRq := hSr.rd 1 rfl
      by_cases hlt : k < qs.length
      · have hlk : k < (lensQ qs).length := by rw [lens_len]; exact hlt
        have hpt := perF_take hlk
        obtain ⟨P0, hP0⟩ : ∃ P0, P0 = perF ((lensQ qs).take k) := ⟨_, rfl⟩
        obtain ⟨n, hn⟩ : ∃ n, n = (lensQ qs)[k] := ⟨_, rfl⟩
        have hn0 : 0 < n := by rw [hn]; exact HPOS.out _ (List.getElem_mem hlk)
        have hn1 : n ≤ 64 := by
          have h1 := sum_take_le (lensQ qs) (k + 1)
          rw [List.take_succ_eq_append_getElem hlk, List.sum_append] at h1
          rw [hn]; simp at h1; omega
        have hp0 : 0 < P0 := by rw [hP0]; exact perF_pos _ 1 (by decide) (fun m hm => HPOS.out m (List.mem_of_mem_take hm))
        have hp1 : P0 ≤ 34359738368 := by rw [hP0]; exact Nat.le_of_lt (perF_lt _ (Nat.le_trans (sum_take_le _ _) hsum))
        rw [← hP0, ← hn] at hpt
        rw [← hP0] at hSr
        have hst := fun w => step_any P0 n hp0 hp1 hn0 hn1 w
        obtain ⟨Z1, hZ1⟩ : ∃ Z : Nat, Z = P0 / Nat.gcd P0 n := ⟨_, rfl⟩
        obtain ⟨Z2, hZ2⟩ : ∃ Z : Nat, Z = n / Nat.gcd P0 n := ⟨_, rfl⟩
        obtain ⟨Z3, hZ3⟩ : ∃ Z : Nat, Z = lcmF P0 n := ⟨_, rfl⟩
        rw [← hZ1, ← hZ2, ← hZ3] at hst
        rw [← hZ3] at hpt
        have HPT := hid hpt; clear hpt
        have HST := hid hst; clear hst
        clear hZ1 hZ2 hZ3
        have hel : (atD (none, 0, 0) (qs.map Prod.fst) k).2.1 = n := by
          have hw := (hSr.own (k + 2) (c := cInt) (sz := 1) (e := 3) (v := cSl qs[k].1) (l := qs[k].2) (by simp [inP, hlt]))
          obtain ⟨a', cap', e1, _⟩ := hw.reps
          have e2 : qs[k].1.2.1 = qs[k].2.length := by have := congrArg (fun v : Value => match v with | .slice _ n _ => n | _ => 0) e1; simpa using this
          rw [hn]
          simp [atD, hlt, e2, lensQ]
        have HEL := hid hel; clear hel
        clear hn hP0
        go_wp2_with ((with_reducible refine wpList_idxN _ ((none, 0, 0) : SlH) E_sls F_sl cSl1 (by with_unfolding_all rfl) (by with_unfolding_all rfl) (hRq) (HQL.out) (by first | omega | (simp; done)) (by first | omega | (simp; done)) (fun _ => by with_unfolding_all rfl) (fun _ => ?_)); (try simp only [cSl]); rw [HEL.out])
        refine (F_any n _).mono ?_
        rintro e w4 ⟨rfl, hb4⟩
        replace hSr := (hSr.mono hb4).box (.cells #[.int .i64 n, .slice none 0 0, .int .i64 1, .slice none 0 0] 156)
        go_wp2_with fail
        have q0 := (hSr.blk 0 rfl).1
        have q1 := (hSr.blk 1 rfl).1
        refine wp_region_qt 7 (by kernel_rfl) (by kernel_rfl) ?_
        simp only [List.take_succ_cons, List.take_zero, List.drop_succ_cons, List.drop_zero]
        ((with_reducible refine wpB_loadS (n := 4) (us := #[_, _, _, _]) A_frac (by kernel_rfl) (by with_unfolding_all rfl) (by with_unfolding_all rfl) (by assumption) (by with_unfolding_all rfl) (by with_unfolding_all rfl) ?_); (try simp only [Act.put, List.setIfInBounds_toArray, List.set_cons_zero, List.set_cons_succ]))
        ((with_reducible refine wpB_loadS (n := 4) (us := #[_, _, _, _]) A_frac (by kernel_rfl) (by with_unfolding_all rfl) (by with_unfolding_all rfl) (by assumption) (by with_unfolding_all rfl) (by with_unfolding_all rfl) ?_); (try simp only [Act.put, List.setIfInBounds_toArray, List.set_cons_zero, List.set_cons_succ]))
        ((refine wpB_call (fV Z1 Z2) (by with_unfolding_all rfl) (fun w' => ?_) (fun w' hw' => (HST.out w').1) ?_); (focus (go_simp; done)); (try simp only [Act.put, List.setIfInBounds_toArray, List.set_cons_zero, List.set_cons_succ]))
        refine wpQ_oneG (iV Z1) (by with_unfolding_all rfl) (fun w' => ?_) ?_
        · go_simp
          kernel_rfl
        ((refine wpB_call (fV Z1 1) (by with_unfolding_all rfl) (fun w' => ?_) (fun w' hw' => Whole_any _ w') ?_); (focus (go_simp; done)); (try simp only [Act.put, List.setIfInBounds_toArray, List.set_cons_zero, List.set_cons_succ]))
        ((with_reducible refine wpB_loadS (n := 4) (us := #[_, _, _, _]) A_frac (by kernel_rfl) (by with_unfolding_all rfl) (by with_unfolding_all rfl) (by assumption) (by with_unfolding_all rfl) (by with_unfolding_all rfl) ?_); (try simp only [Act.put, List.setIfInBounds_toArray, List.set_cons_zero, List.set_cons_succ]))
        ((refine wpB_call (fV Z3 1) (by with_unfolding_all rfl) (fun w' => ?_) (fun w' hw' => (HST.out w').2) ?_); (focus (go_simp; done)); (try simp only [Act.put, List.setIfInBounds_toArray, List.set_cons_zero, List.set_cons_succ]))
        refine wpQuiet_nil ?_
        intro w5 hb5
        replace hSr := hSr.mono hb5
        clear q0 q1
        go_wp2_with ((with_reducible refine wpList_stoR (us := #[.int .i64 Z3, .slice none 0 0, .int .i64 1, .slice none 0 0]) 1 (by with_unfolding_all rfl) (by with_unfolding_all rfl) (hSr) (by with_unfolding_all rfl) (by kernel_rfl) (by with_unfolding_all rfl) (by with_unfolding_all rfl) ?_); intro w6 hS6)
        refine ⟨⟨k + 1, by omega, by go_num, ?_⟩, by simp [intOf]; omega⟩
        rw [HPT.out]
        exact hS6.tail
      · have hkq : k = qs.length := by omega
        have hlk : (lensQ qs).take k = lensQ qs := List.take_of_length_le (by rw [lens_len]; omega)
        rw [hlk, ← HPER.out] at hSr
        have hN0 : 0 < periodN p := by rw [HPER.out]; exact perF_pos _ 1 (by decide) HPOS.out
        have hN1 : periodN p < 34359738368 := by rw [HPER.out]; exact perF_lt _ hsum
        clear hlk
        have HKQ := hid hkq; clear hkq
        have q0 := (hSr.blk 0 rfl).1
        go_wp2_with (with_reducible refine wpList_ldS (n := 4) (us := #[_, _, _, _]) A_frac (by kernel_rfl) (by with_unfolding_all rfl) (by with_unfolding_all rfl) (by assumption) (by with_unfolding_all rfl) (by with_unfolding_all rfl) ?_)
        refine (result_any (periodN p) _ (by omega) (by omega) (HIT.out.below hSr.b)).mono ?_
        rintro e w4 ⟨rfl, hb4⟩
        go_wp2_with fail
        go_ret2
        exact ⟨rfl, (hSr.mono hb4).b⟩
  · have e0 : perS p = ⟨#[]⟩ := by unfold perS; rw [if_neg h]
    have hne : (permE p != 0) = true := by simpa using h
    rw [e0]
    clear e0 h hIt
    go_enter Tryz.func53, Tryz.ntmps53
    go_wp2_with fail
    refine HC.out.mono ?_
    rintro e w1 ⟨rfl, hb1⟩
    go_wp2_with fail
    go_ret2
    exact ⟨rfl, hb1⟩
end Go.Proofs.YtmomeggnegcheaaGreatDoor
