/- Contracts of the reference's arithmetic in small numbers: texts and digits. Conditions: numbers of at most 9 digits. Contracts of the reference's arithmetic in small numbers: integers as digits. Conditions: numbers of at most 9 digits. Contracts of the reference's arithmetic in small numbers: division, fractions as texts, Mul, Div, Num. Conditions: numbers of at most 9 digits. -/
import Derived.Test.YtmomeggnegcheaaGreatDoorNrP
import Derived.Test.YtmomeggnegcheaaGreatDoorRC
import Derived.Test.YtmomeggnegcheaaGreatDoorSlA
import Derived.Test.YtmomeggnegcheaaGreatDoorCyA
import Derived.Test.YtmomeggnegcheaaGreatDoorRlA
import Derived.Test.YtmomeggnegcheaaGreatDoorSlB
set_option linter.all false
/- Contracts of the reference's arithmetic in small numbers: texts and digits. Conditions: numbers of at most 9 digits. -/
namespace Go.Proofs.YtmomeggnegcheaaGreatDoor
open Go.RowKit
set_option maxHeartbeats 2000000
set_option maxRecDepth 100000

def strZ : Value → Nat | .string s => if s.size = 0 then 1 else 0 | _ => 0
theorem rdecimal_any (N : Nat) (w : World) (hN : N < 1000000000000000000) :
    Calls Tryz.prog 124 #[.int .i64 N, .int .i64 1] w fun r w' => r = .returned (.string (itoaB N)) ∧ w = w' := by
  have hl := decD_len 17 N (by simpa using hN)
  have HL := hid hl
  clear hl
  go_enter Tryz.func124, Tryz.ntmps124
  go_wp2_with fail
  go_loopw [0, 5] (fun nv sv wr => ∃ (c : Nat) (t : List UInt8), nv = .int .i64 c ∧ sv = .string (bT t) ∧ c ≤ N ∧ decInv N c t ∧ w = wr) (fun nv sv _ => (intOf nv).toNat + strZ sv)
  case atStart => exact ⟨N, [], rfl, rfl, Nat.le_refl _, decInv_start N, rfl⟩
  case round =>
    obtain ⟨c, t, rfl, rfl, hc, hinv, rfl⟩ := hrel
    have hsz : (bT t).size ≤ 18 := by have := decInv_len hinv; have := HL.out; rw [bT_size]; omega
    have hst := fun h => decInv_step hinv h
    have HST := hid hst
    have hx := dig10_at (c % 10) (Nat.mod_lt _ (by decide))
    have HX := hid hx
    have HINV := hid hinv
    clear hst hx hinv
    by_cases h0 : 0 < c
    · go_wp2_with fail
      have hx := HX.out
      unfold dig10 at hx
      refine ⟨⟨c / 10, (UInt8.ofNat (48 + c % 10) :: t), by first | omega | (congr 1; done) | (congr 1; omega) | rfl, by rw [hx, bT_app]; rfl, by omega, HST.out (.inl h0), by trivial⟩, ?_⟩
      rw [hx, bT_app]
      simp only [strZ, bT_size, intOf]
      simp
      omega
    · have hc0 : c = 0 := by omega
      subst hc0
      by_cases ht : t = []
      · subst ht
        go_wp2_with fail
        exact ⟨⟨0, [48], rfl, by first | rfl | (congr 1; decide), by omega, HST.out (.inr rfl), by trivial⟩, by first | decide | kernel_rfl | (simp [strZ, intOf]; decide)⟩
      · have hs1 : ¬ (bT t).size < 1 := by rw [bT_size]; have := List.length_pos_iff.2 ht; omega
        have he := decInv_end HINV.out ht
        have HE := hid he; clear he
        go_wp2_with fail
        go_ret
        exact ⟨by rw [HE.out]; rfl, rfl⟩

theorem rslash_any (s : ByteArray) (K : Nat) (w : World) (h : SlashAt s K) (hz : s.size ≤ 1048576) :
    Calls Tryz.prog 69 #[.string s] w fun r w' => r = .returned (.int .i64 K) ∧ w = w' := by
  have h1 := h.le
  have HN := hid h.no; have HY := hid h.yes
  clear h
  go_enter Tryz.func69, Tryz.ntmps69
  go_wp2_with fail
  go_loopw [3] (fun i wr => ∃ k : Nat, k ≤ K ∧ i = .int .i64 k ∧ w = wr) (fun i _ => s.size - (intOf i).toNat)
  case atStart => exact ⟨0, by omega, rfl, rfl⟩
  case round =>
    obtain ⟨k, hk, rfl, rfl⟩ := hrel
    by_cases hlt : k < s.size
    · have hb := byteAt_in hlt
      by_cases e : k = K
      · subst e
        have hy := HY.out hlt
        rw [hb] at hy
        have d1 : (((s[k]'hlt).toNat : Int) == 47) = true := by simpa using hy
        clear hy hb
        go_wp2_with fail
        go_ret
        exact ⟨rfl, rfl⟩
      · have hn := HN.out k (by omega)
        rw [hb] at hn
        have d1 : (((s[k]'hlt).toNat : Int) == 47) = false := by simpa using hn
        clear hn hb
        go_wp2_with fail
        exact ⟨⟨k + 1, by omega, by go_num, by trivial⟩, by simp [intOf]; omega⟩
    · have : k = K := by omega
      subst this
      have e : k = s.size := by omega
      have HE := hid e; clear e
      go_wp2_with fail
      go_ret
      exact ⟨by rw [← HE.out]; rfl, rfl⟩

theorem rvalue_any (p : Nat) (w : World) (hp : p < 1000000000) :
    Calls Tryz.prog 154 #[.string (itoaB p)] w fun r w' => r = .returned (.int .i64 p) ∧ w = w' := by
  have hz := (itoaB_len hp).1
  have hdig := fun k (h : k < (itoaB (p : Int)).size) => itoaB_dig (p := p) h
  have hval : ∀ k : Nat, k ≤ (itoaB (p : Int)).size → valL ((Lib.decDigits p).take k) < 10 ^ k := fun k hk => valL_lt _ (decD_dig p) k (by rw [itoaB_bT, bT_size] at hk; exact hk)
  have hstep : ∀ (k : Nat) (h : k < (itoaB (p : Int)).size), (valL ((Lib.decDigits p).take (k + 1)) : Int) = 10 * valL ((Lib.decDigits p).take k) + (((itoaB (p : Int))[k]'h).toNat : Int) - 48 := by
    intro k h
    have h2 : k < (Lib.decDigits p).length := by rw [itoaB_bT, bT_size] at h; exact h
    have h3 := decD_dig p _ (List.getElem_mem h2)
    have h4 : (((itoaB (p : Int))[k]'h).toNat : Int) = ((Lib.decDigits p)[k].toNat : Int) := by
      rw [← byteAt_in h]
      simp only [itoaB_bT]
      rw [bT_at h2]
    rw [h4, valL_take h2]; omega
  have hend : valL ((Lib.decDigits p).take (itoaB (p : Int)).size) = p := by
    rw [itoaB_bT, bT_size, List.take_of_length_le (Nat.le_refl _), valL_dec]
  obtain ⟨s, hs⟩ : ∃ s, s = itoaB (p : Int) := ⟨_, rfl⟩
  have hbig : ∀ k : Nat, k ≤ 9 → 10 ^ k ≤ 1000000000 := fun k hk => by
    have := Nat.pow_le_pow_right (n := 10) (by decide) hk
    simpa using this
  obtain ⟨vl, hvl⟩ : ∃ vl : Nat → Nat, vl = fun k => valL ((Lib.decDigits p).take k) := ⟨_, rfl⟩
  have hval2 : ∀ k : Nat, k ≤ s.size → vl k < 1000000000 := fun k hk => by
    rw [hs] at hk; rw [hvl]
    exact Nat.lt_of_lt_of_le (hval k hk) (hbig k (by omega))
  have hstep2 : ∀ (k : Nat) (h : k < s.size), (vl (k + 1) : Int) = 10 * vl k + ((s[k]'h).toNat : Int) - 48 := by subst hs; subst hvl; exact hstep
  have hend2 : vl s.size = p := by subst hs; subst hvl; exact hend
  have hdig2 : ∀ k (h : k < s.size), 48 ≤ byteAt s k ∧ byteAt s k ≤ 57 := by subst hs; exact hdig
  have h02 : vl 0 = 0 := by subst hvl; rfl
  rw [← hs] at hz ⊢
  have HV := hid hval2; have HS := hid hstep2; have HE := hid hend2; have HD := hid hdig2; have H0 := hid h02
  clear hval2 hstep2 hend2 hdig2 h02 hval hstep hend hdig hbig hs hvl
  go_enter Tryz.func154, Tryz.ntmps154
  go_wp2_with fail
  go_loopw [3, 4] (fun nv i wr => ∃ k : Nat, k ≤ s.size ∧ i = .int .i64 k ∧ nv = .int .i64 (vl k) ∧ w = wr) (fun _ i _ => s.size - (intOf i).toNat)
  case atStart => exact ⟨0, by omega, rfl, by rw [H0.out]; rfl, rfl⟩
  case round =>
    obtain ⟨k, hk, rfl, rfl, rfl⟩ := hrel
    have hv := HV.out k hk
    by_cases hlt : k < s.size
    · have hd := HD.out k hlt
      rw [byteAt_in hlt] at hd
      have hst := HS.out k hlt
      have HST := hid hst; clear hst
      go_wp2_with fail
      exact ⟨⟨k + 1, by omega, by go_num, by rw [HST.out]; try (congr 1; omega), by trivial⟩, by simp [intOf]; omega⟩
    · have : k = s.size := by omega
      subst this
      go_wp2_with fail
      go_ret
      exact ⟨by rw [HE.out]; rfl, rfl⟩

theorem rquick_any (p q : Nat) (w : World) (hp : p < 1000000000) (hq : q < 1000000000) :
    Calls Tryz.prog 116 #[.string (textQ p q)] w fun r w' => r = .returned (.tuple #[.int .i64 p, .int .i64 q, .bool true]) ∧ w = w' := by
  obtain ⟨z1, z2⟩ := textQ_size hp hq
  obtain ⟨z3, z4⟩ := itoaB_len hp
  obtain ⟨z5, z6⟩ := itoaB_len hq
  have hd := textQ_pre (p := p) (q := q) z4
  have hsl := textQ_slash p q
  have hnum := textQ_num p q
  have hle := hsl.le
  obtain ⟨s, hs⟩ : ∃ s, s = textQ p q := ⟨_, rfl⟩
  obtain ⟨k, hk⟩ : ∃ k, k = (itoaB (p : Int)).size := ⟨_, rfl⟩
  have CS := fun w => rslash_any s k w (by rw [hs, hk]; exact hsl) (by rw [hs]; omega)
  have CP := fun w => rvalue_any p w hp
  have CQ := fun w => rvalue_any q w hq
  rw [← hs] at z1 z2 hd hnum hle ⊢
  rw [← hk] at hnum z3 z4 hle
  have z2' : 0 < s.size := z2
  rw [byteAt_in z2'] at hd
  have d1 : (((s[0]'z2').toNat : Int) == 45) = false := by simp; omega
  have HCS := hid CS; have HCQ := hid CQ
  have HN := hid hnum
  by_cases h1 : q = 1
  · have hks : k = s.size := by rw [hs, hk, h1, textQ_one]
    have hse : itoaB (p : Int) = s := by rw [hs, h1, textQ_one]
    rw [hse] at CP
    have HCP := hid CP
    subst h1
    clear hse CS CP CQ hnum hs hk hsl hd HCQ
    go_enter Tryz.func116, Tryz.ntmps116
    go_wp2_with fail
    refine (HCS.out _).mono ?_
    rintro e w' ⟨rfl, rfl⟩
    go_wp2_with fail
    refine (HCP.out _).mono ?_
    rintro e w' ⟨rfl, rfl⟩
    go_wp2_with fail
    go_ret3
    exact ⟨rfl, rfl⟩
  · have hden := textQ_den (p := p) h1
    have hlt := (textQ_lt (p := p)).2 h1
    have hsz := textQ_sz (p := p) h1
    rw [← hs, ← hk] at hlt hden hsz
    rw [hsz] at hden
    have HDN := hid hden; have HCP := hid CP
    clear CS CP CQ hnum hs hk hsl hd hden
    go_enter Tryz.func116, Tryz.ntmps116
    go_wp2_with fail
    refine (HCS.out _).mono ?_
    rintro e w' ⟨rfl, rfl⟩
    go_wp2_with fail
    rw [HN.out]
    refine (HCP.out _).mono ?_
    rintro e w' ⟨rfl, rfl⟩
    go_wp2_with fail
    rw [HDN.out]
    refine (HCQ.out _).mono ?_
    rintro e w' ⟨rfl, rfl⟩
    go_wp2_with fail
    go_ret3
    exact ⟨rfl, rfl⟩
end Go.Proofs.YtmomeggnegcheaaGreatDoor

/- Contracts of the reference's arithmetic in small numbers: integers as digits. Conditions: numbers of at most 9 digits. -/
namespace Go.Proofs.YtmomeggnegcheaaGreatDoor
open Go.RowKit
set_option maxHeartbeats 2000000
set_option maxRecDepth 100000

theorem A_integer : Aggr Tryz.prog 121 := ⟨_, Tryz.underlying121, rfl⟩
theorem ints_empty (w : World) (b o cap : Nat) (h : cap ≤ 9223372036854775807) : Ints w (some ⟨b, o, none⟩) cap [] := ⟨cIntS, Nat.zero_le _, by unfold maxLen; omega, fun e => (by cases e), fun j u hu => (by simp at hu)⟩
theorem wd_ints {w : World} {a : Option Addr} {cap x : Nat} (hS : Ints w a cap [(x : Int)]) : Ints w a cap (wD x) := by
  by_cases hx : x = 0
  · subst hx
    obtain ⟨b, o, rfl, _⟩ := hS.cells (by decide) 0 0 (by simp)
    exact ints_empty _ _ _ _ hS.max
  · rw [wD_pos (by omega)]; exact hS
theorem wd_cases (x : Nat) : (x = 0 ∧ wD x = []) ∨ (0 < x ∧ wD x = [(x : Int)]) := by
  by_cases hx : x = 0
  · exact .inl ⟨hx, by rw [hx]; rfl⟩
  · exact .inr ⟨by omega, wD_pos (by omega)⟩

theorem rtrim_any (x : Nat) (a : Option Addr) (cap : Nat) (w : World) (hS : Ints w a cap [(x : Int)]) :
    Calls Tryz.prog 160 #[.slice a 1 cap] w fun r w' => r = .returned (.slice a (wD x).length cap) ∧ w = w' := by
  have hcap := hS.le
  have hm0 := hS.max
  simp only [List.length_cons, List.length_nil] at hcap
  obtain ⟨b, o, rfl, hc⟩ := hS.cells (by decide) 0 0 (by simp)
  have hc := hc 0 (.int .i64 x) rfl
  simp only [Nat.mul_one, Nat.add_zero, Nat.zero_mul] at hc
  by_cases hx : x = 0
  · subst hx
    go_enter Tryz.func160, Tryz.ntmps160
    go_wp2_with fail
    go_loopw [0] (fun v wr => (v = .slice (some ⟨b, o, none⟩) 1 cap ∨ v = .slice (some ⟨b, o, none⟩) 0 cap) ∧ w = wr) (fun v _ => lenV v)
    case atStart => exact ⟨.inl rfl, rfl⟩
    case round =>
      obtain ⟨rfl | rfl, rfl⟩ := hrel
      · go_wp2_with fail
        exact ⟨⟨.inr rfl, by trivial⟩, by simp [lenV]⟩
      · go_wp2_with fail
        go_ret
        exact ⟨rfl, rfl⟩
  · have hxi : ((x : Int) == 0) = false := by simp; omega
    have hw : wD x = [(x : Int)] := wD_pos (by omega)
    rw [hw]
    clear hw
    go_enter Tryz.func160, Tryz.ntmps160
    go_wp2_with fail
    go_loopw [0] (fun v wr => v = .slice (some ⟨b, o, none⟩) 1 cap ∧ w = wr) (fun v _ => 0)
    case atStart => exact ⟨rfl, rfl⟩
    case round =>
      obtain ⟨rfl, rfl⟩ := hrel
      go_wp2_with fail
      go_ret
      exact ⟨rfl, rfl⟩
theorem rtrimE_any (a : Option Addr) (cap : Nat) (w : World) :
    Calls Tryz.prog 160 #[.slice a 0 cap] w fun r w' => r = .returned (.slice a 0 cap) ∧ w = w' := by
  go_enter Tryz.func160, Tryz.ntmps160
  go_wp2_with fail
  go_loopw [0] (fun v wr => v = .slice a 0 cap ∧ w = wr) (fun v _ => 0)
  case atStart => exact ⟨rfl, rfl⟩
  case round =>
    obtain ⟨rfl, rfl⟩ := hrel
    go_wp2_with fail
    go_ret
    exact ⟨rfl, rfl⟩
theorem rsigned_any (x : Nat) (a : Option Addr) (cap : Nat) (w : World) (hS : Ints w a cap [(x : Int)]) :
    Calls Tryz.prog 125 #[.bool false, .slice a 1 cap] w fun r w' => r = .returned (.agg #[.bool false, .slice a (wD x).length cap]) ∧ Below w.heap.size w w' := by
  have CT := fun w (hS : Ints w a cap [(x : Int)]) => rtrim_any x a cap w hS
  have HT := hid CT; clear CT
  have hl := wD_len x
  have hS0 := (SL.nil w).box (.cells #[.bool false, .slice none 0 0] 121)
  go_enter Tryz.func125, Tryz.ntmps125
  go_wp2_with fail
  refine (HT.out _ (hS.alloc _)).mono ?_
  rintro e w1 ⟨rfl, rfl⟩
  go_wp2_with ((with_reducible refine wpList_stoR (us := #[.bool false, .slice a (wD x).length cap]) 0 (by with_unfolding_all rfl) (by with_unfolding_all rfl) (hS0) (by with_unfolding_all rfl) (by kernel_rfl) (by with_unfolding_all rfl) (by with_unfolding_all rfl) ?_); intro w2 hS2)
  exact bodyPost_ret (results_cell rfl rfl A_integer (by kernel_rfl) (hS2.blk 0 rfl).1) rfl ⟨rfl, hS2.b⟩
theorem rsignedE_any (a : Option Addr) (cap : Nat) (w : World) :
    Calls Tryz.prog 125 #[.bool false, .slice a 0 cap] w fun r w' => r = .returned (.agg #[.bool false, .slice a 0 cap]) ∧ Below w.heap.size w w' := by
  have CT := fun w => rtrimE_any a cap w
  have HT := hid CT; clear CT
  have hS0 := (SL.nil w).box (.cells #[.bool false, .slice none 0 0] 121)
  go_enter Tryz.func125, Tryz.ntmps125
  go_wp2_with fail
  refine (HT.out _).mono ?_
  rintro e w1 ⟨rfl, rfl⟩
  go_wp2_with ((with_reducible refine wpList_stoR (us := #[.bool false, .slice a 0 cap]) 0 (by with_unfolding_all rfl) (by with_unfolding_all rfl) (hS0) (by with_unfolding_all rfl) (by kernel_rfl) (by with_unfolding_all rfl) (by with_unfolding_all rfl) ?_); intro w2 hS2)
  exact bodyPost_ret (results_cell rfl rfl A_integer (by kernel_rfl) (hS2.blk 0 rfl).1) rfl ⟨rfl, hS2.b⟩

theorem SL.ownB {α : Type} {c : α → Value} {sz B n cap : Nat} {e : TypeId} {w0 w : World} {L : List Pc} {a : Option Addr} {l : List α} (h : SL B w0 w L) (i : Nat) (hi : L[i]? = some (pOwn c sz e (.slice a n cap) l)) : ∀ b, a = some b → B ≤ b.block := by
  obtain ⟨b, hP, hB, _⟩ := h.upd i hi
  intro b' e1
  subst e1
  exact hB b'.block (hP.2.symm.trans rfl)
/-- an integer of the reference that is not negative, and small. -/
def NatR (w : World) (v : Value) (n : Nat) : Prop := ∃ a cap, v = .agg #[.bool false, .slice a (wD n).length cap] ∧ Ints w a cap (wD n)
theorem NatR.below {w w' : World} {v : Value} {n : Nat} (h : NatR w v n) (hb : Below w.heap.size w w') : NatR w' v n := by
  obtain ⟨a, cap, h1, h2⟩ := h; exact ⟨a, cap, h1, h2.below hb⟩

theorem rwhole_any (x : Nat) (w : World) (hx : x < 1000000000) :
    Calls Tryz.prog 75 #[.int .i64 x] w fun r w' => ∃ a cap, r = .returned (.agg #[.bool false, .slice a (wD x).length cap]) ∧ Ints w' a cap (wD x) ∧ (∀ b, a = some b → w.heap.size ≤ b.block) ∧ Below w.heap.size w w' := by
  have CS := fun a cap w hS => rsigned_any x a cap w hS
  have CE := fun a cap w => rsignedE_any a cap w
  have HS := hid CS; have HE := hid CE; clear CS CE
  have hS0 := ((SL.nil w).box (.cells #[.bool false, .slice none 0 0] 121)).nilS (α := Int) (c := cInt) (sz := 1) (e := 3) cIntS
  by_cases h0 : x = 0
  · subst h0
    go_enter Tryz.func75, Tryz.ntmps75
    go_wp2_with fail
    go_loopw [0, 3, 5] (fun nv wv _ wr => nv = .int .i64 0 ∧ wv = .slice none 0 0 ∧ SL w.heap.size w wr [pBlk w.heap.size (.cells #[.bool false, .slice none 0 0] 121)]) (fun _ _ _ _ => 0)
    case atStart => exact ⟨rfl, rfl, hS0.tail⟩
    case round =>
      obtain ⟨rfl, rfl, hSL⟩ := hrel
      go_wp2_with fail
      refine (HE.out none 0 wr).mono ?_
      rintro e w1 ⟨rfl, b1⟩
      have hSL1 := hSL.mono b1
      go_wp2_with ((with_reducible refine wpList_stoR (us := #[.bool false, .slice none 0 0]) 0 (by with_unfolding_all rfl) (by with_unfolding_all rfl) (hSL1) (by with_unfolding_all rfl) (by kernel_rfl) (by with_unfolding_all rfl) (by with_unfolding_all rfl) ?_); intro w2 hS2)
      exact bodyPost_ret (results_cell rfl rfl A_integer (by kernel_rfl) (hS2.blk 0 rfl).1) rfl ⟨none, 0, rfl, ints_nil _, (fun b e => by cases e), hS2.b⟩
  · have hmod : (x : Int) % 1000000000 = x := Int.emod_eq_of_lt (by omega) (by omega)
    have hdiv : (x : Int) / 1000000000 = 0 := Int.ediv_eq_zero_of_lt (by omega) (by omega)
    have hne : ((x : Int) != 0) = true := by simp; omega
    go_enter Tryz.func75, Tryz.ntmps75
    go_wp2_with fail
    go_loopw [0, 3, 5] (fun nv wv _ wr => ∃ (c : Nat) (l : List Int), nv = .int .i64 c ∧ ((c = x ∧ l = []) ∨ (c = 0 ∧ l = [(x : Int)])) ∧ SL w.heap.size w wr [pOwn cInt 1 3 wv l, pBlk w.heap.size (.cells #[.bool false, .slice none 0 0] 121)]) (fun nv _ _ _ => (intOf nv).toNat)
    case atStart => exact ⟨x, [], rfl, .inl ⟨rfl, rfl⟩, hS0⟩
    case round =>
      clear hS0
      obtain ⟨c, l, rfl, ⟨rfl, rfl⟩ | ⟨rfl, rfl⟩, hSL⟩ := hrel
      · have hl0 : ([] : List Int).length ≤ 5 := by simp
        go_wp2_with ((with_reducible refine wpList_pushL (y := (c : Int)) 0 E_ints (by with_unfolding_all rfl) (by with_unfolding_all rfl) (hSL) (by with_unfolding_all rfl) cIntO ⟨rfl, rfl⟩ (by first | with_unfolding_all rfl | simp) (by with_unfolding_all rfl) (by first | omega | (simp; omega)) (by first | omega | (simp; omega)) ?_); intro v3 w3 hS3)
        exact ⟨⟨0, _, rfl, .inr ⟨rfl, rfl⟩, hS3⟩, by simp [intOf]; omega⟩
      · obtain ⟨a, cap, rfl, hR⟩ := hSL.slice 0 rfl
        clear hmod hdiv hne
        go_wp2_with fail
        refine (HS.out a cap wr hR).mono ?_
        rintro e w1 ⟨rfl, b1⟩
        have hSL1 := hSL.mono b1
        go_wp2_with ((with_reducible refine wpList_stoR (us := #[.bool false, .slice a (wD x).length cap]) 1 (by with_unfolding_all rfl) (by with_unfolding_all rfl) (hSL1) (by with_unfolding_all rfl) (by kernel_rfl) (by with_unfolding_all rfl) (by with_unfolding_all rfl) ?_); intro w2 hS2)
        exact bodyPost_ret (results_cell rfl rfl A_integer (by kernel_rfl) (hS2.blk 1 rfl).1) rfl ⟨a, cap, rfl, wd_ints (hS2.rd 0 rfl), hS2.ownB 0 rfl, hS2.b⟩

theorem rtext_any (x : Nat) (v : Value) (w : World) (hx : x < 1000000000) (hv : NatR w v x) :
    Calls Tryz.prog 74 #[v] w fun r w' => r = .returned (.string (itoaB x)) ∧ Below w.heap.size w w' := by
  obtain ⟨a, cap, rfl, hR⟩ := hv
  have CD := fun w => rdecimal_any x w (by omega)
  have HD := hid CD; clear CD
  rcases wd_cases x with ⟨h0, hw⟩ | ⟨h0, hw⟩
  · subst h0
    rw [hw]
    have hz : itoaB ((0 : Nat) : Int) = ⟨#[48]⟩ := by rw [itoaB_nat, decD_small (by decide)]; rfl
    rw [hz]
    clear hz hw hR
    go_enter Tryz.func74, Tryz.ntmps74
    go_wp2_with fail
    go_ret
    exact ⟨rfl, bal (Below.refl _ _) _⟩
  · rw [hw] at hR ⊢
    clear hw
    have hR1 := hR.alloc (.cells #[.bool false, .slice a 1 cap] 121)
    go_enter Tryz.func74, Tryz.ntmps74
    go_wp2_with (with_reducible refine wpList_idx _ 0 E_ints F_int cInt1 (by with_unfolding_all rfl) (by with_unfolding_all rfl) (hR1) (by first | omega | (simp; done)) (by first | omega | (simp; done)) (fun _ => by with_unfolding_all rfl) (fun _ => ?_))
    refine (HD.out _).mono ?_
    rintro e w1 ⟨rfl, rfl⟩
    go_wp2_with fail
    go_loopw [3, 4] (fun sv iv wr => sv = .string (itoaB x) ∧ iv = .int .i64 (-1) ∧ wr = w.alloc (.cells #[.bool false, .slice a 1 cap] 121)) (fun _ _ _ => 0)
    case atStart => exact ⟨rfl, rfl, rfl⟩
    case round =>
      obtain ⟨rfl, rfl, rfl⟩ := hrel
      go_wp2_with fail
      go_ret
      exact ⟨rfl, bal (Below.refl _ _) _⟩

theorem rparse_any (x : Nat) (w : World) (hx : x < 1000000000) :
    Calls Tryz.prog 122 #[.string (itoaB x)] w fun r w' => ∃ a cap, r = .returned (.agg #[.bool false, .slice a (wD x).length cap]) ∧ Ints w' a cap (wD x) ∧ (∀ b, a = some b → w.heap.size ≤ b.block) ∧ Below w.heap.size w w' := by
  obtain ⟨z1, z2⟩ := itoaB_len hx
  have hd := itoaB_dig z2
  have CV := fun w => rvalue_any x w hx
  have CS := fun a cap w hS => rsigned_any x a cap w hS
  have HS := hid CS; clear CS
  obtain ⟨s, hs⟩ : ∃ s, s = itoaB (x : Int) := ⟨_, rfl⟩
  rw [← hs] at z1 z2 hd CV ⊢
  have HV := hid CV
  rw [byteAt_in z2] at hd
  have d1 : (((s[0]'z2).toNat : Int) == 45) = false := by simp; omega
  clear CV hs hd
  have hS0 := ((SL.nil w).box (.cells #[.bool false, .slice none 0 0] 121)).nilS (α := Int) (c := cInt) (sz := 1) (e := 3) cIntS
  go_enter Tryz.func122, Tryz.ntmps122
  go_wp2_with fail
  go_loopw [0, 4] (fun sv wv wr => sv = .string s ∧ wv = .slice none 0 0 ∧ SL w.heap.size w wr [pOwn cInt 1 3 (.slice none 0 0) [], pBlk w.heap.size (.cells #[.bool false, .slice none 0 0] 121)]) (fun _ _ _ => 0)
  case atStart => exact ⟨rfl, rfl, hS0⟩
  case round =>
    obtain ⟨rfl, rfl, hSL⟩ := hrel
    clear hS0
    have hl0 : ([] : List Int).length ≤ 5 := by simp
    go_wp2_with (first | (go_at_call 154; with_reducible refine (HV.out _).mono ?_; rintro e w' ⟨rfl, rfl⟩) | ((with_reducible refine wpList_pushL (y := (x : Int)) 0 E_ints (by with_unfolding_all rfl) (by with_unfolding_all rfl) (hSL) (by with_unfolding_all rfl) cIntO ⟨rfl, rfl⟩ (by first | with_unfolding_all rfl | simp) (by with_unfolding_all rfl) (by first | omega | (simp; omega)) (by first | omega | (simp; omega)) ?_); intro v3 w3 hS3))
    obtain ⟨a, cap, rfl, hR⟩ := hS3.slice 0 rfl
    go_wp2_with fail
    refine (HS.out a cap w3 hR).mono ?_
    rintro e w1 ⟨rfl, b1⟩
    have hSL1 := hS3.mono b1
    go_wp2_with ((with_reducible refine wpList_stoR (us := #[.bool false, .slice a (wD x).length cap]) 1 (by with_unfolding_all rfl) (by with_unfolding_all rfl) (hSL1) (by with_unfolding_all rfl) (by kernel_rfl) (by with_unfolding_all rfl) (by with_unfolding_all rfl) ?_); intro w2 hS2)
    exact bodyPost_ret (results_cell rfl rfl A_integer (by kernel_rfl) (hS2.blk 1 rfl).1) rfl ⟨a, cap, rfl, wd_ints (hS2.rd 0 rfl), hS2.ownB 0 rfl, hS2.b⟩

theorem rFromInt_any (x : Nat) (w : World) (hx : x < 1000000000) :
    Calls Tryz.prog 26 #[.int .i64 x] w fun r w' => r = .returned (.string (itoaB x)) ∧ Below w.heap.size w w' := by
  have CW := fun w => rwhole_any x w hx
  have CT := fun v w hv => rtext_any x v w hx hv
  have HW := hid CW; have HT := hid CT; clear CW CT
  go_enter Tryz.func26, Tryz.ntmps26
  go_wp2_with fail
  refine (HW.out w).mono ?_
  rintro e w1 ⟨a1, c1, rfl, h1, _, b1⟩
  go_wp2_with fail
  refine (HT.out _ w1 ⟨a1, c1, rfl, h1⟩).mono ?_
  rintro e w2 ⟨rfl, b2⟩
  go_wp2_with fail
  go_ret
  exact ⟨rfl, bnext b1 b2⟩

def cmpN (x y : Nat) : Int := if x < y then -1 else if y < x then 1 else 0
theorem rcompare_any (x y : Nat) (a b : Option Addr) (cap cap2 : Nat) (w : World) (hy0 : 0 < y) (hS : Ints w a cap (wD x)) (hT : Ints w b cap2 (wD y)) :
    Calls Tryz.prog 158 #[.slice a (wD x).length cap, .slice b (wD y).length cap2] w fun r w' => r = .returned (.int .i64 (cmpN x y)) ∧ Below w.heap.size w w' := by
  have hw2 := wD_pos hy0
  rw [hw2] at hT ⊢
  clear hw2
  rcases wd_cases x with ⟨h0, hw⟩ | ⟨h0, hw⟩
  · have e : cmpN x y = -1 := by unfold cmpN; rw [if_pos (by omega)]
    rw [hw, e]
    clear hw e hS
    go_enter Tryz.func158, Tryz.ntmps158
    go_wp2_with fail
    go_ret
    exact ⟨rfl, Below.refl _ _⟩
  · rw [hw] at hS ⊢
    clear hw
    have hx0 : atD 0 [(x : Int)] 0 = x := rfl
    have hy1 : atD 0 [(y : Int)] 0 = y := rfl
    go_enter Tryz.func158, Tryz.ntmps158
    go_wp2_with fail
    go_loopw [5] (fun iv wr => (iv = .int .i64 0 ∨ (iv = .int .i64 (-1) ∧ x = y)) ∧ Below w.heap.size w wr) (fun iv _ => (intOf iv + 1).toNat)
    case atStart => exact ⟨.inl rfl, Below.refl _ _⟩
    case round =>
      obtain ⟨rfl | ⟨rfl, rfl⟩, hbr⟩ := hrel
      · have hSr := hS.below hbr
        have hTr := hT.below hbr
        go_wp2_with fail
        refine wp_region_quiet_lit (by kernel_rfl) (by kernel_rfl) ?_
        repeat (first | ((with_reducible refine wpQD_idx 0 E_ints F_int cInt1 (by with_unfolding_all rfl) (by with_unfolding_all rfl) (hSr) (by first | omega | (simp; done)) (by first | omega | (simp; done)) (fun _ => by with_unfolding_all rfl) (fun _ => ?_)); (try simp only [Act.put, List.setIfInBounds_toArray, List.set_cons_zero, List.set_cons_succ]); (try simp only [cInt])) | ((with_reducible refine wpQD_idx 0 E_ints F_int cInt1 (by with_unfolding_all rfl) (by with_unfolding_all rfl) (hTr) (by first | omega | (simp; done)) (by first | omega | (simp; done)) (fun _ => by with_unfolding_all rfl) (fun _ => ?_)); (try simp only [Act.put, List.setIfInBounds_toArray, List.set_cons_zero, List.set_cons_succ]); (try simp only [cInt])) | quiet_step (fail))
        refine wpQuiet_nil ?_
        intro w2 hb2
        replace hb2 := below_drewN hb2
        try rw [hx0, hy1]
        have hSr2 := hSr.below hb2
        have hTr2 := hTr.below hb2
        by_cases h1 : x < y
        · have e : cmpN x y = -1 := by unfold cmpN; rw [if_pos h1]
          have HE := hid e; clear e
          have h1' : (x : Int) < y := by omega
          go_wp2_with fail
          go_ret
          exact ⟨by rw [HE.out]; rfl, bnext hbr hb2⟩
        · have h1' : ¬ (x : Int) < y := by omega
          go_wp2_with fail
          refine wp_region_quiet_lit (by kernel_rfl) (by kernel_rfl) ?_
          repeat (first | ((with_reducible refine wpQD_idx 0 E_ints F_int cInt1 (by with_unfolding_all rfl) (by with_unfolding_all rfl) (hSr2) (by first | omega | (simp; done)) (by first | omega | (simp; done)) (fun _ => by with_unfolding_all rfl) (fun _ => ?_)); (try simp only [Act.put, List.setIfInBounds_toArray, List.set_cons_zero, List.set_cons_succ]); (try simp only [cInt])) | ((with_reducible refine wpQD_idx 0 E_ints F_int cInt1 (by with_unfolding_all rfl) (by with_unfolding_all rfl) (hTr2) (by first | omega | (simp; done)) (by first | omega | (simp; done)) (fun _ => by with_unfolding_all rfl) (fun _ => ?_)); (try simp only [Act.put, List.setIfInBounds_toArray, List.set_cons_zero, List.set_cons_succ]); (try simp only [cInt])) | quiet_step (fail))
          refine wpQuiet_nil ?_
          intro w3 hb3
          replace hb3 := below_drewN hb3
          try rw [hx0, hy1]
          have b3 := bnext hbr (bnext hb2 hb3)
          by_cases h2 : y < x
          · have e : cmpN x y = 1 := by unfold cmpN; rw [if_neg h1, if_pos h2]
            have HE := hid e; clear e
            have h2' : (y : Int) < x := by omega
            go_wp2_with fail
            go_ret
            exact ⟨by rw [HE.out]; rfl, b3⟩
          · have h2' : ¬ (y : Int) < x := by omega
            go_wp2_with fail
            exact ⟨⟨.inr ⟨rfl, by omega⟩, b3⟩, by simp [intOf]⟩
      · have e : cmpN x x = 0 := by unfold cmpN; rw [if_neg (by omega), if_neg (by omega)]
        have HE := hid e; clear e
        go_wp2_with fail
        go_ret
        exact ⟨by rw [HE.out]; rfl, hbr⟩

theorem rdivDigit_any (x y : Nat) (a : Option Addr) (cap : Nat) (w : World) (hx : x < 1000000000) (hy : y < 1000000000) (hy0 : 0 < y) (hS : Ints w a cap [(x : Int)]) :
    Calls Tryz.prog 159 #[.slice a 1 cap, .int .i64 y] w fun r w' => ∃ a1 c1, r = .returned (.tuple #[.slice a1 (wD (x / y)).length c1, .int .i64 ((x % y : Nat) : Int)]) ∧ Ints w' a1 c1 (wD (x / y)) ∧ Below w.heap.size w w' := by
  have CT := fun a cap w hS => rtrim_any (x / y) a cap w hS
  have HT := hid CT; clear CT
  have hS0 := SL.nil w
  have hx0 : atD 0 [(x : Int)] 0 = x := rfl
  have q1 : ((x / y : Nat) : Int) = (x : Int) / y := Int.natCast_ediv x y
  have q2 : ((x % y : Nat) : Int) = (x : Int) % y := Int.natCast_emod x y
  have b1 : 0 ≤ (x : Int) / y := Int.ediv_nonneg (by omega) (by omega)
  have b2 : (x : Int) / y ≤ x := Int.ediv_le_self _ (by omega)
  have b3 : 0 ≤ (x : Int) % y := Int.emod_nonneg _ (by omega)
  have b4 : (x : Int) % y < y := Int.emod_lt_of_pos _ (by omega)
  have hw1 : IntKind.i64.wrap ((x : Int) / y) = (x : Int) / y := IntWalk.i64_in _ (by omega)
  have hw2 : IntKind.i64.wrap ((x : Int) % y) = (x : Int) % y := IntWalk.i64_in _ (by omega)
  have q3 : (x : Int).tdiv y = (x : Int) / y := Int.tdiv_eq_ediv_of_nonneg (by omega)
  have q4 : (x : Int).tmod y = (x : Int) % y := Int.tmod_eq_emod_of_nonneg (by omega)
  have hq : x / y ≤ x := Nat.div_le_self _ _
  have hr : x % y < y := Nat.mod_lt _ hy0
  have hyn : ¬ (y : Int) = 0 := by omega
  have Q1 := hid q1; have Q2 := hid q2
  rw [q2]
  clear q1 q2
  go_enter Tryz.func159, Tryz.ntmps159
  go_wp2_with ((with_reducible refine wpList_makeL (c := cInt) (1) (0) E_ints cInt1 (by with_unfolding_all rfl) (by with_unfolding_all rfl) (by omega) (by omega) (hS0) ?_); intro ad w1 hS1)
  go_loopw [7, 8, 9] (fun rv iv _ wr => ((rv = .int .i64 0 ∧ iv = .int .i64 0 ∧ SL w.heap.size w wr [pOwn cInt 1 3 (.slice ad 1 1) [0]]) ∨ (rv = .int .i64 ((x : Int) % y) ∧ iv = .int .i64 (-1) ∧ SL w.heap.size w wr [pOwn cInt 1 3 (.slice ad 1 1) [(x : Int) / y]]))) (fun _ iv _ _ => (intOf iv + 1).toNat)
  case atStart => exact .inl ⟨rfl, rfl, hS1⟩
  case round =>
    rcases hrel with ⟨rfl, rfl, hSL⟩ | ⟨rfl, rfl, hSL⟩
    · have hSr := hS.below hSL.b
      go_wp2_with (first | ((with_reducible refine wpList_idx _ 0 E_ints F_int cInt1 (by with_unfolding_all rfl) (by with_unfolding_all rfl) (hSr) (by first | omega | (simp; done)) (by first | omega | (simp; done)) (fun _ => by with_unfolding_all rfl) (fun _ => ?_)); try rw [hx0]) | ((with_reducible refine wpList_storeL (u := ((x : Int) / y)) 0 E_ints cInt1 (sto_int) (by with_unfolding_all rfl) (by with_unfolding_all rfl) (hSL) (by with_unfolding_all rfl) (by first | omega | (simp; done) | (simp; omega)) (by first | omega | (simp; done) | (simp; omega)) (fun _ => by with_unfolding_all rfl) (fun _ => by with_unfolding_all rfl) ?_); intro _ w3 hS3))
      exact ⟨.inr ⟨rfl, rfl, hS3⟩, by simp [intOf]⟩
    · have hR := hSL.rd 0 rfl
      rw [← Q1.out] at hR
      clear q3 q4 hw1 hw2
      go_wp2_with fail
      refine (HT.out ad 1 wr hR).mono ?_
      rintro e w1 ⟨rfl, rfl⟩
      go_wp2_with fail
      go_ret2
      exact ⟨_, _, rfl, wd_ints hR, hSL.b⟩
end Go.Proofs.YtmomeggnegcheaaGreatDoor

/- Contracts of the reference's arithmetic in small numbers: division, fractions as texts, Mul, Div, Num. Conditions: numbers of at most 9 digits. -/
namespace Go.Proofs.YtmomeggnegcheaaGreatDoor
open Go.RowKit
set_option maxHeartbeats 2000000
set_option maxRecDepth 100000

theorem rdivDigits_any (x y : Nat) (a b : Option Addr) (cap cap2 : Nat) (w : World) (hx : x < 1000000000) (hy : y < 1000000000) (hy0 : 0 < y) (hS : Ints w a cap (wD x)) (hT : Ints w b cap2 (wD y)) :
    Calls Tryz.prog 123 #[.slice a (wD x).length cap, .slice b (wD y).length cap2] w fun r w' => ∃ a1 c1 a2 c2, r = .returned (.tuple #[.slice a1 (wD (x / y)).length c1, .slice a2 (wD (x % y)).length c2]) ∧ Ints w' a1 c1 (wD (x / y)) ∧ Ints w' a2 c2 (wD (x % y)) ∧ Below w.heap.size w w' := by
  have CC := rcompare_any x y a b cap cap2 w hy0 hS hT
  by_cases h1 : x < y
  · have e0 : cmpN x y = -1 := by unfold cmpN; rw [if_pos h1]
    have e1 : x / y = 0 := Nat.div_eq_of_lt h1
    have e2 : x % y = x := Nat.mod_eq_of_lt h1
    rw [e0] at CC
    rw [e1, e2]
    have HC := hid CC
    clear e0 e1 e2 CC
    go_enter Tryz.func123, Tryz.ntmps123
    go_wp2_with fail
    refine HC.out.mono ?_
    rintro e w1 ⟨rfl, b1⟩
    go_wp2_with fail
    go_ret2
    exact ⟨none, 0, a, cap, rfl, ints_nil _, hS.below b1, b1⟩
  · have hc : 0 ≤ cmpN x y := by unfold cmpN; rw [if_neg h1]; split <;> omega
    have hxw := wD_pos (show 0 < x by omega)
    have hyw := wD_pos hy0
    rw [hxw] at hS CC ⊢
    rw [hyw] at hT CC ⊢
    have hy1 : atD 0 [(y : Int)] 0 = y := rfl
    have CD := fun w hS => rdivDigit_any x y a cap w hx hy hy0 hS
    have CT := fun a cap w hS => rtrim_any (x % y) a cap w hS
    obtain ⟨k, hk⟩ : ∃ k, k = cmpN x y := ⟨_, rfl⟩
    rw [← hk] at CC hc
    have HC := hid CC; have HD := hid CD; have HT := hid CT
    clear CC CD CT hk hxw hyw
    go_enter Tryz.func123, Tryz.ntmps123
    go_wp2_with fail
    refine HC.out.mono ?_
    rintro e w1 ⟨rfl, b1⟩
    have hT1 := hT.below b1
    go_wp2_with ((with_reducible refine wpList_idx _ 0 E_ints F_int cInt1 (by with_unfolding_all rfl) (by with_unfolding_all rfl) (hT1) (by first | omega | (simp; done)) (by first | omega | (simp; done)) (fun _ => by with_unfolding_all rfl) (fun _ => ?_)); try rw [hy1])
    refine (HD.out w1 (hS.below b1)).mono ?_
    rintro e w2 ⟨a2, c2, rfl, hq, b2⟩
    have hR := reps_new1 (w := w2) (e := 3) cIntS ((x % y : Nat) : Int) #[.int .i64 ((x % y : Nat) : Int)] (0, 0) rfl rfl
    go_wp2_with fail
    refine (HT.out _ _ _ hR).mono ?_
    rintro e w3 ⟨rfl, rfl⟩
    go_wp2_with fail
    go_ret2
    exact ⟨_, _, _, _, rfl, hq.alloc _, wd_ints hR, bal (bnext b1 b2) _⟩

theorem rcommon_any (x y : Nat) (a b : Option Addr) (cap cap2 : Nat) (w : World) (hx : x < 1000000000) (hy : y < 1000000000) (hS : Ints w a cap (wD x)) (hT : Ints w b cap2 (wD y)) :
    Calls Tryz.prog 72 #[.slice a (wD x).length cap, .slice b (wD y).length cap2] w fun r w' => ∃ a1 c1, r = .returned (.slice a1 (wD (Nat.gcd x y)).length c1) ∧ Ints w' a1 c1 (wD (Nat.gcd x y)) ∧ Below w.heap.size w w' := by
  go_enter Tryz.func72, Tryz.ntmps72
  go_wp2_with fail
  go_loopg [0, 1, 5, 6] y (fun g va vb _ _ wr => ∃ (p q : Nat) (a b : Option Addr) (ca cb : Nat), g = q ∧ va = .slice a (wD p).length ca ∧ vb = .slice b (wD q).length cb ∧ Ints wr a ca (wD p) ∧ Ints wr b cb (wD q) ∧ p < 1000000000 ∧ q < 1000000000 ∧ Aside (Nat.gcd p q = Nat.gcd x y) ∧ Below w.heap.size w wr)
  case atStart => exact ⟨x, y, a, b, cap, cap2, rfl, rfl, rfl, hS, hT, hx, hy, rfl, Below.refl _ _⟩
  case round =>
    obtain ⟨p, q, a, b, ca, cb, rfl, rfl, rfl, hSr, hTr, hp, hq, HG, hbr⟩ := hrel
    by_cases h0 : gk = 0
    · subst h0
      have e : p = Nat.gcd x y := by rw [← HG.out, Nat.gcd_zero_right]
      have HE := hid e
      have hl : (wD 0).length ≤ 0 := Nat.le_refl _
      clear e
      go_wp2_with fail
      go_ret
      rw [← HE.out]
      exact ⟨a, ca, rfl, hSr, hbr⟩
    · have hl : 0 < (wD gk).length := by rw [wD_pos (by omega)]; simp
      have CD := fun w hS hT => rdivDigits_any p gk a b ca cb w hp hq (by omega) hS hT
      have HD := hid CD
      clear CD
      go_wp2_with fail
      refine (HD.out wr hSr hTr).mono ?_
      rintro e w2 ⟨a1, c1, a2, c2, rfl, h1, h2, b2⟩
      have hm : p % gk < gk := Nat.mod_lt _ (by omega)
      go_wp2_with fail
      go_roundg (p % gk)
      case measure => exact hm
      case rel => exact ⟨gk, p % gk, b, a2, cb, c2, rfl, rfl, rfl, hTr.below b2, h2, hq, by omega, by show Nat.gcd gk (p % gk) = _; rw [← HG.out, Nat.gcd_comm gk, ← Nat.gcd_rec, Nat.gcd_comm], bnext hbr b2⟩

theorem rparts_any (x : Nat) (w : World) (hx : x < 1000000000) :
    Calls Tryz.prog 71 #[.string (itoaB x)] w fun r w' => ∃ a c b d, r = .returned (.tuple #[.agg #[.bool false, .slice a (wD x).length c], .agg #[.bool false, .slice b (wD 1).length d]]) ∧ Ints w' a c (wD x) ∧ Ints w' b d (wD 1) ∧ Below w.heap.size w w' := by
  have hsl := textQ_slash x 1
  rw [textQ_one] at hsl
  have hz := (itoaB_len hx).1
  have CP := fun w => rparse_any x w hx
  have CW := fun w => rwhole_any 1 w (by decide)
  obtain ⟨s, hs⟩ : ∃ s, s = itoaB (x : Int) := ⟨_, rfl⟩
  rw [← hs] at hsl hz CP ⊢
  have CS := fun w => rslash_any s s.size w hsl (by omega)
  have HP := hid CP; have HW := hid CW; have HS := hid CS
  clear CP CW CS hs hsl
  have hS0 := ((SL.nil w).box (.cells #[.bool false, .slice none 0 0] 121)).box (.cells #[.bool false, .slice none 0 0] 121)
  simp only [World.size_alloc] at hS0
  go_enter Tryz.func71, Tryz.ntmps71
  go_wp2_with fail
  refine (HS.out _).mono ?_
  rintro e w' ⟨rfl, rfl⟩
  go_wp2_with fail
  refine (HP.out _).mono ?_
  rintro e w1 ⟨a, c, rfl, h1, f1, b1⟩
  have hS1 := hS0.newRd b1 h1 (by decide) f1
  go_wp2_with fail
  refine (HW.out _).mono ?_
  rintro e w2 ⟨b, d, rfl, h2, f2, b2⟩
  have hS2 := hS1.newRd b2 h2 (by decide) f2
  clear hS0 hS1
  go_wp2_with (first | ((with_reducible refine wpList_stoR (us := #[.bool false, .slice a (wD x).length c]) 3 (by with_unfolding_all rfl) (by with_unfolding_all rfl) (hS2) (by with_unfolding_all rfl) (by kernel_rfl) (by with_unfolding_all rfl) (by with_unfolding_all rfl) ?_); intro w3 hS3) | ((with_reducible refine wpList_stoR (us := #[.bool false, .slice b (wD 1).length d]) 2 (by with_unfolding_all rfl) (by with_unfolding_all rfl) (hS3) (by with_unfolding_all rfl) (by kernel_rfl) (by with_unfolding_all rfl) (by with_unfolding_all rfl) ?_); intro w4 hS4))
  exact bodyPost_ret (results_cell2 rfl rfl rfl A_integer (by kernel_rfl) (by kernel_rfl) (hS4.blk 3 rfl).1 (hS4.blk 2 rfl).1) rfl ⟨a, c, b, d, rfl, hS4.rdR 1 rfl, hS4.rdR 0 rfl, hS4.b⟩

theorem rfraction_any (x y : Nat) (a b : Option Addr) (c d : Nat) (w : World) (hx : x < 1000000000) (hy : y < 1000000000) (hx0 : 0 < x) (hy0 : 0 < y) (hS : Ints w a c (wD x)) (hT : Ints w b d (wD y)) :
    Calls Tryz.prog 118 #[.agg #[.bool false, .slice a (wD x).length c], .agg #[.bool false, .slice b (wD y).length d]] w fun r w' => r = .returned (.string (textQ (x / Nat.gcd x y) (y / Nat.gcd x y))) ∧ Below w.heap.size w w' := by
  have hg0 : 0 < Nat.gcd x y := Nat.gcd_pos_of_pos_left _ hx0
  have hgx : Nat.gcd x y ≤ x := Nat.gcd_le_left _ hx0
  have CC := fun w hS hT => rcommon_any x y a b c d w hx hy hS hT
  obtain ⟨g, hg⟩ : ∃ g, g = Nat.gcd x y := ⟨_, rfl⟩
  rw [← hg] at hg0 hgx CC ⊢
  have hp0 : 0 < x / g := by rw [hg]; exact Nat.div_pos (Nat.gcd_le_left _ hx0) (Nat.gcd_pos_of_pos_left _ hx0)
  have hq0 : 0 < y / g := by rw [hg]; exact Nat.div_pos (Nat.gcd_le_right _ hy0) (Nat.gcd_pos_of_pos_left _ hx0)
  have hp1 : x / g ≤ x := Nat.div_le_self _ _
  have hq1 : y / g ≤ y := Nat.div_le_self _ _
  have CD1 := fun a1 c1 w hS hT => rdivDigits_any x g a a1 c c1 w hx (by omega) hg0 hS hT
  have CD2 := fun a1 c1 w hS hT => rdivDigits_any y g b a1 d c1 w hy (by omega) hg0 hS hT
  obtain ⟨p, hp⟩ : ∃ p, p = x / g := ⟨_, rfl⟩
  obtain ⟨q, hq⟩ : ∃ q, q = y / g := ⟨_, rfl⟩
  rw [← hp] at hp0 hp1 CD1 ⊢
  rw [← hq] at hq0 hq1 CD2 ⊢
  have hpw := wD_pos hp0
  have hqw := wD_pos hq0
  rw [hpw] at CD1
  rw [hqw] at CD2
  have CG1 := fun a c w hS => rsigned_any p a c w hS
  have CG2 := fun a c w hS => rsigned_any q a c w hS
  have CT1 := fun v w hv => rtext_any p v w (by omega) hv
  have CT2 := fun v w hv => rtext_any q v w (by omega) hv
  have hzp := (itoaB_len (show p < 1000000000 by omega)).1
  have hzq := (itoaB_len (show q < 1000000000 by omega)).1
  have HC := hid CC; have HD1 := hid CD1; have HD2 := hid CD2; have HG1 := hid CG1; have HG2 := hid CG2; have HT1 := hid CT1; have HT2 := hid CT2
  clear CC CD1 CD2 CG1 CG2 CT1 CT2 hpw hqw hp hq hg
  have hS0 := ((SL.nil w).box (.cells #[.bool false, .slice a (wD x).length c] 121)).box (.cells #[.bool false, .slice b (wD y).length d] 121)
  simp only [World.size_alloc] at hS0
  go_enter Tryz.func118, Tryz.ntmps118
  go_wp2_with fail
  refine (HC.out _ (hS.below hS0.b) (hT.below hS0.b)).mono ?_
  rintro e w1 ⟨a1, c1, rfl, h1, b1⟩
  have hS1 := hS0.mono b1
  have k1 := hS1.cell 1 rfl 1 rfl
  go_wp2_with fail
  refine (HD1.out a1 c1 w1 (hS.below hS1.b) h1).mono ?_
  rintro e w2 ⟨a2, c2, a3, c3, rfl, h2, h3, b2⟩
  have hS2 := hS1.mono b2
  have h12 := h1.below b2
  have k2 := hS2.cell 0 rfl 1 rfl
  clear k1 h3
  go_wp2_with fail
  refine (HD2.out a1 c1 w2 (hT.below hS2.b) h12).mono ?_
  rintro e w3 ⟨a4, c4, a5, c5, rfl, h4, h5, b3⟩
  have hS3 := hS2.mono b3
  have k3 := hS3.cell 1 rfl 0 rfl
  clear k2 h5
  go_wp2_with fail
  refine (HG1.out a2 c2 w3 (h2.below b3)).mono ?_
  rintro e w4 ⟨rfl, b4⟩
  go_wp2_with fail
  refine (HT1.out _ w4 ⟨a2, c2, rfl, wd_ints ((h2.below b3).below b4)⟩).mono ?_
  rintro e w5 ⟨rfl, b5⟩
  have hS5 := (hS3.mono b4).mono b5
  have h45 := (h4.below b4).below b5
  clear k3 h2 h12 h1 h4
  have hq1' : atD 0 [(q : Int)] 0 = q := rfl
  by_cases e1 : q = 1
  · subst e1
    have HTQ := hid (textQ_one p)
    go_wp2_with ((with_reducible refine wpList_idxG 0 E_ints F_int cInt1 (by with_unfolding_all rfl) (by with_unfolding_all rfl) (h45) (rfl) (by first | omega | (simp; done)) (by first | omega | (simp; done)) (fun _ => by with_unfolding_all rfl) (by with_unfolding_all rfl) (fun _ => by with_unfolding_all rfl) (fun _ => ?_)); try rw [hq1'])
    go_ret
    exact ⟨by rw [HTQ.out]; rfl, hS5.b⟩
  · have hd : ((q : Int) == 1) = false := by simp; omega
    have ht : textQ p q = itoaB (p : Int) ++ ⟨#[47]⟩ ++ itoaB (q : Int) := by unfold textQ; rw [if_neg e1]
    have HTQ := hid ht; clear ht
    go_wp2_with ((with_reducible refine wpList_idxG 0 E_ints F_int cInt1 (by with_unfolding_all rfl) (by with_unfolding_all rfl) (h45) (rfl) (by first | omega | (simp; done)) (by first | omega | (simp; done)) (fun _ => by with_unfolding_all rfl) (by with_unfolding_all rfl) (fun _ => by with_unfolding_all rfl) (fun _ => ?_)); try rw [hq1'])
    refine (HG2.out a4 c4 w5 h45).mono ?_
    rintro e w6 ⟨rfl, b6⟩
    go_wp2_with fail
    refine (HT2.out _ w6 ⟨a4, c4, rfl, wd_ints (h45.below b6)⟩).mono ?_
    rintro e w7 ⟨rfl, b7⟩
    go_wp2_with fail
    go_ret
    exact ⟨by rw [HTQ.out]; rfl, ((hS5.mono b6).mono b7).b⟩
end Go.Proofs.YtmomeggnegcheaaGreatDoor
