/- Contracts of the reference's arithmetic in small numbers: texts and digits. Conditions: numbers of at most 9 digits. -/
import Derived.Test.YtogbclcnmogaeaaGreatDoorNrP
import Derived.Test.YtogbclcnmogaeaaGreatDoorRC
import Derived.Test.YtogbclcnmogaeaaGreatDoorSlA
set_option linter.all false
namespace Go.Proofs.YtogbclcnmogaeaaGreatDoor
open Go.RowKit
set_option maxHeartbeats 2000000
set_option maxRecDepth 100000

def strZ : Value → Nat | .string s => if s.size = 0 then 1 else 0 | _ => 0
theorem rdecimal_any (N : Nat) (w : World) (hN : N < 1000000000000000000) :
    Calls Tryz.prog 192 #[.int .i64 N, .int .i64 1] w fun r w' => r = .returned (.string (itoaB N)) ∧ w = w' := by
  have hl := decD_len 17 N (by simpa using hN)
  have HL := hid hl
  clear hl
  go_enter Tryz.func192, Tryz.ntmps192
  go_wp2_with fail
  go_loopw [0, 5] (fun nv sv wr => ∃ (c : Nat) (t : List UInt8), nv = .int .i64 c ∧ sv = .string (bT t) ∧ c ≤ N ∧ decInv N c t ∧ w = wr) (fun nv sv _ => (intOf nv).toNat + strZ sv)
  case atStart => exact ⟨N, [], rfl, rfl, Nat.le_refl _, decInv_start N, rfl⟩
  case round =>
    obtain ⟨c, t, rfl, rfl, hc, hinv, rfl⟩ := hrel
    have hsz : (bT t).size ≤ 18 := by have := decInv_len hinv; have := HL.out; rw [bT_size]; omega
    have hst := fun h => decInv_step hinv h
    have HST := hid hst
    have hx := dig10_at (c % 10) (Nat.mod_lt _ (by decide))
    have HX := hid hx
    have HINV := hid hinv
    clear hst hx hinv
    by_cases h0 : 0 < c
    · go_wp2_with fail
      have hx := HX.out
      unfold dig10 at hx
      refine ⟨⟨c / 10, (UInt8.ofNat (48 + c % 10) :: t), by first | omega | (congr 1; done) | (congr 1; omega) | rfl, by rw [hx, bT_app]; rfl, by omega, HST.out (.inl h0), by trivial⟩, ?_⟩
      rw [hx, bT_app]
      simp only [strZ, bT_size, intOf]
      simp
      omega
    · have hc0 : c = 0 := by omega
      subst hc0
      by_cases ht : t = []
      · subst ht
        go_wp2_with fail
        exact ⟨⟨0, [48], rfl, by first | rfl | (congr 1; decide), by omega, HST.out (.inr rfl), by trivial⟩, by first | decide | kernel_rfl | (simp [strZ, intOf]; decide)⟩
      · have hs1 : ¬ (bT t).size < 1 := by rw [bT_size]; have := List.length_pos_iff.2 ht; omega
        have he := decInv_end HINV.out ht
        have HE := hid he; clear he
        go_wp2_with fail
        go_ret
        exact ⟨by rw [HE.out]; rfl, rfl⟩

theorem rslash_any (s : ByteArray) (K : Nat) (w : World) (h : SlashAt s K) (hz : s.size ≤ 1048576) :
    Calls Tryz.prog 129 #[.string s] w fun r w' => r = .returned (.int .i64 K) ∧ w = w' := by
  have h1 := h.le
  have HN := hid h.no; have HY := hid h.yes
  clear h
  go_enter Tryz.func129, Tryz.ntmps129
  go_wp2_with fail
  go_loopw [3] (fun i wr => ∃ k : Nat, k ≤ K ∧ i = .int .i64 k ∧ w = wr) (fun i _ => s.size - (intOf i).toNat)
  case atStart => exact ⟨0, by omega, rfl, rfl⟩
  case round =>
    obtain ⟨k, hk, rfl, rfl⟩ := hrel
    by_cases hlt : k < s.size
    · have hb := byteAt_in hlt
      by_cases e : k = K
      · subst e
        have hy := HY.out hlt
        rw [hb] at hy
        have d1 : (((s[k]'hlt).toNat : Int) == 47) = true := by simpa using hy
        clear hy hb
        go_wp2_with fail
        go_ret
        exact ⟨rfl, rfl⟩
      · have hn := HN.out k (by omega)
        rw [hb] at hn
        have d1 : (((s[k]'hlt).toNat : Int) == 47) = false := by simpa using hn
        clear hn hb
        go_wp2_with fail
        exact ⟨⟨k + 1, by omega, by go_num, by trivial⟩, by simp [intOf]; omega⟩
    · have : k = K := by omega
      subst this
      have e : k = s.size := by omega
      have HE := hid e; clear e
      go_wp2_with fail
      go_ret
      exact ⟨by rw [← HE.out]; rfl, rfl⟩

theorem rvalue_any (p : Nat) (w : World) (hp : p < 1000000000) :
    Calls Tryz.prog 214 #[.string (itoaB p)] w fun r w' => r = .returned (.int .i64 p) ∧ w = w' := by
  have hz := (itoaB_len hp).1
  have hdig := fun k (h : k < (itoaB (p : Int)).size) => itoaB_dig (p := p) h
  have hval : ∀ k : Nat, k ≤ (itoaB (p : Int)).size → valL ((Lib.decDigits p).take k) < 10 ^ k := fun k hk => valL_lt _ (decD_dig p) k (by rw [itoaB_bT, bT_size] at hk; exact hk)
  have hstep : ∀ (k : Nat) (h : k < (itoaB (p : Int)).size), (valL ((Lib.decDigits p).take (k + 1)) : Int) = 10 * valL ((Lib.decDigits p).take k) + (((itoaB (p : Int))[k]'h).toNat : Int) - 48 := by
    intro k h
    have h2 : k < (Lib.decDigits p).length := by rw [itoaB_bT, bT_size] at h; exact h
    have h3 := decD_dig p _ (List.getElem_mem h2)
    have h4 : (((itoaB (p : Int))[k]'h).toNat : Int) = ((Lib.decDigits p)[k].toNat : Int) := by
      rw [← byteAt_in h]
      simp only [itoaB_bT]
      rw [bT_at h2]
    rw [h4, valL_take h2]; omega
  have hend : valL ((Lib.decDigits p).take (itoaB (p : Int)).size) = p := by
    rw [itoaB_bT, bT_size, List.take_of_length_le (Nat.le_refl _), valL_dec]
  obtain ⟨s, hs⟩ : ∃ s, s = itoaB (p : Int) := ⟨_, rfl⟩
  have hbig : ∀ k : Nat, k ≤ 9 → 10 ^ k ≤ 1000000000 := fun k hk => by
    have := Nat.pow_le_pow_right (n := 10) (by decide) hk
    simpa using this
  obtain ⟨vl, hvl⟩ : ∃ vl : Nat → Nat, vl = fun k => valL ((Lib.decDigits p).take k) := ⟨_, rfl⟩
  have hval2 : ∀ k : Nat, k ≤ s.size → vl k < 1000000000 := fun k hk => by
    rw [hs] at hk; rw [hvl]
    exact Nat.lt_of_lt_of_le (hval k hk) (hbig k (by omega))
  have hstep2 : ∀ (k : Nat) (h : k < s.size), (vl (k + 1) : Int) = 10 * vl k + ((s[k]'h).toNat : Int) - 48 := by subst hs; subst hvl; exact hstep
  have hend2 : vl s.size = p := by subst hs; subst hvl; exact hend
  have hdig2 : ∀ k (h : k < s.size), 48 ≤ byteAt s k ∧ byteAt s k ≤ 57 := by subst hs; exact hdig
  have h02 : vl 0 = 0 := by subst hvl; rfl
  rw [← hs] at hz ⊢
  have HV := hid hval2; have HS := hid hstep2; have HE := hid hend2; have HD := hid hdig2; have H0 := hid h02
  clear hval2 hstep2 hend2 hdig2 h02 hval hstep hend hdig hbig hs hvl
  go_enter Tryz.func214, Tryz.ntmps214
  go_wp2_with fail
  go_loopw [3, 4] (fun nv i wr => ∃ k : Nat, k ≤ s.size ∧ i = .int .i64 k ∧ nv = .int .i64 (vl k) ∧ w = wr) (fun _ i _ => s.size - (intOf i).toNat)
  case atStart => exact ⟨0, by omega, rfl, by rw [H0.out]; rfl, rfl⟩
  case round =>
    obtain ⟨k, hk, rfl, rfl, rfl⟩ := hrel
    have hv := HV.out k hk
    by_cases hlt : k < s.size
    · have hd := HD.out k hlt
      rw [byteAt_in hlt] at hd
      have hst := HS.out k hlt
      have HST := hid hst; clear hst
      go_wp2_with fail
      exact ⟨⟨k + 1, by omega, by go_num, by rw [HST.out]; try (congr 1; omega), by trivial⟩, by simp [intOf]; omega⟩
    · have : k = s.size := by omega
      subst this
      go_wp2_with fail
      go_ret
      exact ⟨by rw [HE.out]; rfl, rfl⟩

theorem rquick_any (p q : Nat) (w : World) (hp : p < 1000000000) (hq : q < 1000000000) :
    Calls Tryz.prog 169 #[.string (textQ p q)] w fun r w' => r = .returned (.tuple #[.int .i64 p, .int .i64 q, .bool true]) ∧ w = w' := by
  obtain ⟨z1, z2⟩ := textQ_size hp hq
  obtain ⟨z3, z4⟩ := itoaB_len hp
  obtain ⟨z5, z6⟩ := itoaB_len hq
  have hd := textQ_pre (p := p) (q := q) z4
  have hsl := textQ_slash p q
  have hnum := textQ_num p q
  have hle := hsl.le
  obtain ⟨s, hs⟩ : ∃ s, s = textQ p q := ⟨_, rfl⟩
  obtain ⟨k, hk⟩ : ∃ k, k = (itoaB (p : Int)).size := ⟨_, rfl⟩
  have CS := fun w => rslash_any s k w (by rw [hs, hk]; exact hsl) (by rw [hs]; omega)
  have CP := fun w => rvalue_any p w hp
  have CQ := fun w => rvalue_any q w hq
  rw [← hs] at z1 z2 hd hnum hle ⊢
  rw [← hk] at hnum z3 z4 hle
  have z2' : 0 < s.size := z2
  rw [byteAt_in z2'] at hd
  have d1 : (((s[0]'z2').toNat : Int) == 45) = false := by simp; omega
  have HCS := hid CS; have HCQ := hid CQ
  have HN := hid hnum
  by_cases h1 : q = 1
  · have hks : k = s.size := by rw [hs, hk, h1, textQ_one]
    have hse : itoaB (p : Int) = s := by rw [hs, h1, textQ_one]
    rw [hse] at CP
    have HCP := hid CP
    subst h1
    clear hse CS CP CQ hnum hs hk hsl hd HCQ
    go_enter Tryz.func169, Tryz.ntmps169
    go_wp2_with fail
    refine (HCS.out _).mono ?_
    rintro e w' ⟨rfl, rfl⟩
    go_wp2_with fail
    refine (HCP.out _).mono ?_
    rintro e w' ⟨rfl, rfl⟩
    go_wp2_with fail
    go_ret3
    exact ⟨rfl, rfl⟩
  · have hden := textQ_den (p := p) h1
    have hlt := (textQ_lt (p := p)).2 h1
    have hsz := textQ_sz (p := p) h1
    rw [← hs, ← hk] at hlt hden hsz
    rw [hsz] at hden
    have HDN := hid hden; have HCP := hid CP
    clear CS CP CQ hnum hs hk hsl hd hden
    go_enter Tryz.func169, Tryz.ntmps169
    go_wp2_with fail
    refine (HCS.out _).mono ?_
    rintro e w' ⟨rfl, rfl⟩
    go_wp2_with fail
    rw [HN.out]
    refine (HCP.out _).mono ?_
    rintro e w' ⟨rfl, rfl⟩
    go_wp2_with fail
    rw [HDN.out]
    refine (HCQ.out _).mono ?_
    rintro e w' ⟨rfl, rfl⟩
    go_wp2_with fail
    go_ret3
    exact ⟨rfl, rfl⟩
end Go.Proofs.YtogbclcnmogaeaaGreatDoor
