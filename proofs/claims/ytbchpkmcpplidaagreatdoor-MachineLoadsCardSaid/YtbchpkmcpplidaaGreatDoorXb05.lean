/- Contracts and plain facts that the claim uses (NrM KnM NrT CiB Lib2 Lib3 ItA RtP RtM). Conditions: as each one states. -/
import Derived.Shelf.Strconv.Itoa3
import Derived.Shelf.LaysM
import Derived.Shelf.Strconv.ErrVarAll
import Derived.Shelf.Strconv.AtoiAll
import Derived.Shelf.Strings.Cut
import Derived.Shelf.Strings.Split
import Derived.Shelf.Strings.SplitShaped
import Derived.Lib.AppendIntMem
import Derived.Lib.SmallJoins
import Derived.LaidSub
import Derived.Lib.LaidTab
import Derived.Maps.Ext
import Derived.Maps.RangeWalk
import Derived.Maps.OwnSet
import Derived.Test.YtbchpkmcpplidaaGreatDoorXb01
import Derived.Test.YtbchpkmcpplidaaGreatDoorXb02
import Derived.Test.YtbchpkmcpplidaaGreatDoorXb03
import Derived.Test.YtbchpkmcpplidaaGreatDoorXb04
set_option linter.all false

namespace Go.Proofs.YtbchpkmcpplidaaGreatDoor
open Go.RowKit
set_option maxHeartbeats 2000000
set_option maxRecDepth 100000

def strZ : Value → Nat | .string s => if s.size = 0 then 1 else 0 | _ => 0
theorem rdecimal_any (N : Nat) (w : World) (hN : N < 1000000000000000000) :
  Calls Tryz.prog 147 #[.int .i64 N, .int .i64 1] w fun r w' => r = .returned (.string (itoaB N)) ∧ w = w' := by
 have hl := decD_len 17 N (by simpa using hN)
 have HL := hid hl
 clear hl
 go_enter Tryz.func147, Tryz.ntmps147
 go_wp2_with fail
 go_loopw [0, 5] (fun nv sv wr => ∃ (c : Nat) (t : List UInt8), nv = .int .i64 c ∧ sv = .string (bT t) ∧ c ≤ N ∧ decInv N c t ∧ w = wr) (fun nv sv _ => (intOf nv).toNat + strZ sv)
 case atStart => exact ⟨N, [], rfl, rfl, Nat.le_refl _, decInv_start N, rfl⟩
 case round =>
  obtain ⟨c, t, rfl, rfl, hc, hinv, rfl⟩ := hrel
  have hsz : (bT t).size ≤ 18 := by have := decInv_len hinv; have := HL.out; rw [bT_size]; omega
  have hst := fun h => decInv_step hinv h
  have HST := hid hst
  have hx := dig10_at (c % 10) (Nat.mod_lt _ (by decide))
  have HX := hid hx
  have HINV := hid hinv
  clear hst hx hinv
  by_cases h0 : 0 < c
  ·go_wp2_with fail
   have hx := HX.out
   unfold dig10 at hx
   refine ⟨⟨c / 10, (UInt8.ofNat (48 + c % 10) :: t), by first | omega | (congr 1; done) | (congr 1; omega) | rfl, by rw [hx, bT_app]; rfl, by omega, HST.out (.inl h0), by trivial⟩, ?_⟩
   rw [hx, bT_app]
   simp only [strZ, bT_size, intOf]
   simp
   omega
  ·have hc0 : c = 0 := by omega
   subst hc0
   by_cases ht : t = []
   ·subst ht
    go_wp2_with fail
    exact ⟨⟨0, [48], rfl, by first | rfl | (congr 1; decide), by omega, HST.out (.inr rfl), by trivial⟩, by first | decide | kernel_rfl | (simp [strZ, intOf]; decide)⟩
   ·have hs1 : ¬ (bT t).size < 1 := by rw [bT_size]; have := List.length_pos_iff.2 ht; omega
    have he := decInv_end HINV.out ht
    have HE := hid he; clear he
    go_wp2_with fail
    go_ret
    exact ⟨by rw [HE.out]; rfl, rfl⟩

theorem rslash_any (s : ByteArray) (K : Nat) (w : World) (h : SlashAt s K) (hz : s.size ≤ 1048576) :
  Calls Tryz.prog 123 #[.string s] w fun r w' => r = .returned (.int .i64 K) ∧ w = w' := by
 have h1 := h.le
 have HN := hid h.no; have HY := hid h.yes
 clear h
 go_enter Tryz.func123, Tryz.ntmps123
 go_wp2_with fail
 go_loopw [3] (fun i wr => ∃ k : Nat, k ≤ K ∧ i = .int .i64 k ∧ w = wr) (fun i _ => s.size - (intOf i).toNat)
 case atStart => exact ⟨0, by omega, rfl, rfl⟩
 case round =>
  obtain ⟨k, hk, rfl, rfl⟩ := hrel
  by_cases hlt : k < s.size
  ·have hb := byteAt_in hlt
   by_cases e : k = K
   ·subst e
    have hy := HY.out hlt
    rw [hb] at hy
    have d1 : (((s[k]'hlt).toNat : Int) == 47) = true := by simpa using hy
    clear hy hb
    go_wp2_with fail
    go_ret
    exact ⟨rfl, rfl⟩
   ·have hn := HN.out k (by omega)
    rw [hb] at hn
    have d1 : (((s[k]'hlt).toNat : Int) == 47) = false := by simpa using hn
    clear hn hb
    go_wp2_with fail
    exact ⟨⟨k + 1, by omega, by go_num, by trivial⟩, by simp [intOf]; omega⟩
  ·have : k = K := by omega
   subst this
   have e : k = s.size := by omega
   have HE := hid e; clear e
   go_wp2_with fail
   go_ret
   exact ⟨by rw [← HE.out]; rfl, rfl⟩

theorem rvalue_any (p : Nat) (w : World) (hp : p < 1000000000) :
  Calls Tryz.prog 149 #[.string (itoaB p)] w fun r w' => r = .returned (.int .i64 p) ∧ w = w' := by
 have hz := (itoaB_len hp).1
 have hdig := fun k (h : k < (itoaB (p : Int)).size) => itoaB_dig (p := p) h
 have hval : ∀ k : Nat, k ≤ (itoaB (p : Int)).size → valL ((Lib.decDigits p).take k) < 10 ^ k := fun k hk => valL_lt _ (decD_dig p) k (by rw [itoaB_bT, bT_size] at hk; exact hk)
 have hstep : ∀ (k : Nat) (h : k < (itoaB (p : Int)).size), (valL ((Lib.decDigits p).take (k + 1)) : Int) = 10 * valL ((Lib.decDigits p).take k) + (((itoaB (p : Int))[k]'h).toNat : Int) - 48 := by
  intro k h
  have h2 : k < (Lib.decDigits p).length := by rw [itoaB_bT, bT_size] at h; exact h
  have h3 := decD_dig p _ (List.getElem_mem h2)
  have h4 : (((itoaB (p : Int))[k]'h).toNat : Int) = ((Lib.decDigits p)[k].toNat : Int) := by
   rw [← byteAt_in h]
   simp only [itoaB_bT]
   rw [bT_at h2]
  rw [h4, valL_take h2]; omega
 have hend : valL ((Lib.decDigits p).take (itoaB (p : Int)).size) = p := by
  rw [itoaB_bT, bT_size, List.take_of_length_le (Nat.le_refl _), valL_dec]
 obtain ⟨s, hs⟩ : ∃ s, s = itoaB (p : Int) := ⟨_, rfl⟩
 have hbig : ∀ k : Nat, k ≤ 9 → 10 ^ k ≤ 1000000000 := fun k hk => by
  have := Nat.pow_le_pow_right (n := 10) (by decide) hk
  simpa using this
 obtain ⟨vl, hvl⟩ : ∃ vl : Nat → Nat, vl = fun k => valL ((Lib.decDigits p).take k) := ⟨_, rfl⟩
 have hval2 : ∀ k : Nat, k ≤ s.size → vl k < 1000000000 := fun k hk => by
  rw [hs] at hk; rw [hvl]
  exact Nat.lt_of_lt_of_le (hval k hk) (hbig k (by omega))
 have hstep2 : ∀ (k : Nat) (h : k < s.size), (vl (k + 1) : Int) = 10 * vl k + ((s[k]'h).toNat : Int) - 48 := by subst hs; subst hvl; exact hstep
 have hend2 : vl s.size = p := by subst hs; subst hvl; exact hend
 have hdig2 : ∀ k (h : k < s.size), 48 ≤ byteAt s k ∧ byteAt s k ≤ 57 := by subst hs; exact hdig
 have h02 : vl 0 = 0 := by subst hvl; rfl
 rw [← hs] at hz ⊢
 have HV := hid hval2; have HS := hid hstep2; have HE := hid hend2; have HD := hid hdig2; have H0 := hid h02
 clear hval2 hstep2 hend2 hdig2 h02 hval hstep hend hdig hbig hs hvl
 go_enter Tryz.func149, Tryz.ntmps149
 go_wp2_with fail
 go_loopw [3, 4] (fun nv i wr => ∃ k : Nat, k ≤ s.size ∧ i = .int .i64 k ∧ nv = .int .i64 (vl k) ∧ w = wr) (fun _ i _ => s.size - (intOf i).toNat)
 case atStart => exact ⟨0, by omega, rfl, by rw [H0.out]; rfl, rfl⟩
 case round =>
  obtain ⟨k, hk, rfl, rfl, rfl⟩ := hrel
  have hv := HV.out k hk
  by_cases hlt : k < s.size
  ·have hd := HD.out k hlt
   rw [byteAt_in hlt] at hd
   have hst := HS.out k hlt
   have HST := hid hst; clear hst
   go_wp2_with fail
   exact ⟨⟨k + 1, by omega, by go_num, by rw [HST.out]; try (congr 1; omega), by trivial⟩, by simp [intOf]; omega⟩
  ·have : k = s.size := by omega
   subst this
   go_wp2_with fail
   go_ret
   exact ⟨by rw [HE.out]; rfl, rfl⟩

theorem rquick_any (p q : Nat) (w : World) (hp : p < 1000000000) (hq : q < 1000000000) :
  Calls Tryz.prog 118 #[.string (textQ p q)] w fun r w' => r = .returned (.tuple #[.int .i64 p, .int .i64 q, .bool true]) ∧ w = w' := by
 obtain ⟨z1, z2⟩ := textQ_size hp hq
 obtain ⟨z3, z4⟩ := itoaB_len hp
 obtain ⟨z5, z6⟩ := itoaB_len hq
 have hd := textQ_pre (p := p) (q := q) z4
 have hsl := textQ_slash p q
 have hnum := textQ_num p q
 have hle := hsl.le
 obtain ⟨s, hs⟩ : ∃ s, s = textQ p q := ⟨_, rfl⟩
 obtain ⟨k, hk⟩ : ∃ k, k = (itoaB (p : Int)).size := ⟨_, rfl⟩
 have CS := fun w => rslash_any s k w (by rw [hs, hk]; exact hsl) (by rw [hs]; omega)
 have CP := fun w => rvalue_any p w hp
 have CQ := fun w => rvalue_any q w hq
 rw [← hs] at z1 z2 hd hnum hle ⊢
 rw [← hk] at hnum z3 z4 hle
 have z2' : 0 < s.size := z2
 rw [byteAt_in z2'] at hd
 have d1 : (((s[0]'z2').toNat : Int) == 45) = false := by simp; omega
 have HCS := hid CS; have HCQ := hid CQ
 have HN := hid hnum
 by_cases h1 : q = 1
 ·have hks : k = s.size := by rw [hs, hk, h1, textQ_one]
  have hse : itoaB (p : Int) = s := by rw [hs, h1, textQ_one]
  rw [hse] at CP
  have HCP := hid CP
  subst h1
  clear hse CS CP CQ hnum hs hk hsl hd HCQ
  go_enter Tryz.func118, Tryz.ntmps118
  go_wp2_with fail
  refine (HCS.out _).mono ?_
  rintro e w' ⟨rfl, rfl⟩
  go_wp2_with fail
  refine (HCP.out _).mono ?_
  rintro e w' ⟨rfl, rfl⟩
  go_wp2_with fail
  go_ret3
  exact ⟨rfl, rfl⟩
 ·have hden := textQ_den (p := p) h1
  have hlt := (textQ_lt (p := p)).2 h1
  have hsz := textQ_sz (p := p) h1
  rw [← hs, ← hk] at hlt hden hsz
  rw [hsz] at hden
  have HDN := hid hden; have HCP := hid CP
  clear CS CP CQ hnum hs hk hsl hd hden
  go_enter Tryz.func118, Tryz.ntmps118
  go_wp2_with fail
  refine (HCS.out _).mono ?_
  rintro e w' ⟨rfl, rfl⟩
  go_wp2_with fail
  rw [HN.out]
  refine (HCP.out _).mono ?_
  rintro e w' ⟨rfl, rfl⟩
  go_wp2_with fail
  rw [HDN.out]
  refine (HCQ.out _).mono ?_
  rintro e w' ⟨rfl, rfl⟩
  go_wp2_with fail
  go_ret3
  exact ⟨rfl, rfl⟩
end Go.Proofs.YtbchpkmcpplidaaGreatDoor

namespace Go.Proofs.YtbchpkmcpplidaaGreatDoor
open Go.RowKit
set_option maxHeartbeats 2000000
set_option maxRecDepth 100000

theorem A_integer : Aggr Tryz.prog 144 := ⟨_, Tryz.underlying144, rfl⟩
theorem ints_empty (w : World) (b o cap : Nat) (h : cap ≤ 9223372036854775807) : Ints w (some ⟨b, o, none⟩) cap [] := ⟨cIntS, Nat.zero_le _, by unfold maxLen; omega, fun e => (by cases e), fun j u hu => (by simp at hu)⟩
theorem wd_ints {w : World} {a : Option Addr} {cap x : Nat} (hS : Ints w a cap [(x : Int)]) : Ints w a cap (wD x) := by
 by_cases hx : x = 0
 ·subst hx
  obtain ⟨b, o, rfl, _⟩ := hS.cells (by decide) 0 0 (by simp)
  exact ints_empty _ _ _ _ hS.max
 ·rw [wD_pos (by omega)]; exact hS
theorem wd_cases (x : Nat) : (x = 0 ∧ wD x = []) ∨ (0 < x ∧ wD x = [(x : Int)]) := by
 by_cases hx : x = 0
 ·exact .inl ⟨hx, by rw [hx]; rfl⟩
 ·exact .inr ⟨by omega, wD_pos (by omega)⟩

theorem rtrim_any (x : Nat) (a : Option Addr) (cap : Nat) (w : World) (hS : Ints w a cap [(x : Int)]) :
  Calls Tryz.prog 180 #[.slice a 1 cap] w fun r w' => r = .returned (.slice a (wD x).length cap) ∧ w = w' := by
 have hcap := hS.le
 have hm0 := hS.max
 simp only [List.length_cons, List.length_nil] at hcap
 obtain ⟨b, o, rfl, hc⟩ := hS.cells (by decide) 0 0 (by simp)
 have hc := hc 0 (.int .i64 x) rfl
 simp only [Nat.mul_one, Nat.add_zero, Nat.zero_mul] at hc
 by_cases hx : x = 0
 ·subst hx
  go_enter Tryz.func180, Tryz.ntmps180
  go_wp2_with fail
  go_loopw [0] (fun v wr => (v = .slice (some ⟨b, o, none⟩) 1 cap ∨ v = .slice (some ⟨b, o, none⟩) 0 cap) ∧ w = wr) (fun v _ => lenV v)
  case atStart => exact ⟨.inl rfl, rfl⟩
  case round =>
   obtain ⟨rfl | rfl, rfl⟩ := hrel
   ·go_wp2_with fail
    exact ⟨⟨.inr rfl, by trivial⟩, by simp [lenV]⟩
   ·go_wp2_with fail
    go_ret
    exact ⟨rfl, rfl⟩
 ·have hxi : ((x : Int) == 0) = false := by simp; omega
  have hw : wD x = [(x : Int)] := wD_pos (by omega)
  rw [hw]
  clear hw
  go_enter Tryz.func180, Tryz.ntmps180
  go_wp2_with fail
  go_loopw [0] (fun v wr => v = .slice (some ⟨b, o, none⟩) 1 cap ∧ w = wr) (fun v _ => 0)
  case atStart => exact ⟨rfl, rfl⟩
  case round =>
   obtain ⟨rfl, rfl⟩ := hrel
   go_wp2_with fail
   go_ret
   exact ⟨rfl, rfl⟩
theorem rtrimE_any (a : Option Addr) (cap : Nat) (w : World) :
  Calls Tryz.prog 180 #[.slice a 0 cap] w fun r w' => r = .returned (.slice a 0 cap) ∧ w = w' := by
 go_enter Tryz.func180, Tryz.ntmps180
 go_wp2_with fail
 go_loopw [0] (fun v wr => v = .slice a 0 cap ∧ w = wr) (fun v _ => 0)
 case atStart => exact ⟨rfl, rfl⟩
 case round =>
  obtain ⟨rfl, rfl⟩ := hrel
  go_wp2_with fail
  go_ret
  exact ⟨rfl, rfl⟩
theorem rsigned_any (x : Nat) (a : Option Addr) (cap : Nat) (w : World) (hS : Ints w a cap [(x : Int)]) :
  Calls Tryz.prog 148 #[.bool false, .slice a 1 cap] w fun r w' => r = .returned (.agg #[.bool false, .slice a (wD x).length cap]) ∧ Below w.heap.size w w' := by
 have CT := fun w (hS : Ints w a cap [(x : Int)]) => rtrim_any x a cap w hS
 have HT := hid CT; clear CT
 have hl := wD_len x
 have hS0 := (SL.nil w).box (.cells #[.bool false, .slice none 0 0] 144)
 go_enter Tryz.func148, Tryz.ntmps148
 go_wp2_with fail
 refine (HT.out _ (hS.alloc _)).mono ?_
 rintro e w1 ⟨rfl, rfl⟩
 go_wp2_with ((with_reducible refine wpList_stoR (us := #[.bool false, .slice a (wD x).length cap]) 0 (by with_unfolding_all rfl) (by with_unfolding_all rfl) (hS0) (by with_unfolding_all rfl) (by kernel_rfl) (by with_unfolding_all rfl) (by with_unfolding_all rfl) ?_); intro w2 hS2)
 exact bodyPost_ret (results_cell rfl rfl A_integer (by kernel_rfl) (hS2.blk 0 rfl).1) rfl ⟨rfl, hS2.b⟩
theorem rsignedE_any (a : Option Addr) (cap : Nat) (w : World) :
  Calls Tryz.prog 148 #[.bool false, .slice a 0 cap] w fun r w' => r = .returned (.agg #[.bool false, .slice a 0 cap]) ∧ Below w.heap.size w w' := by
 have CT := fun w => rtrimE_any a cap w
 have HT := hid CT; clear CT
 have hS0 := (SL.nil w).box (.cells #[.bool false, .slice none 0 0] 144)
 go_enter Tryz.func148, Tryz.ntmps148
 go_wp2_with fail
 refine (HT.out _).mono ?_
 rintro e w1 ⟨rfl, rfl⟩
 go_wp2_with ((with_reducible refine wpList_stoR (us := #[.bool false, .slice a 0 cap]) 0 (by with_unfolding_all rfl) (by with_unfolding_all rfl) (hS0) (by with_unfolding_all rfl) (by kernel_rfl) (by with_unfolding_all rfl) (by with_unfolding_all rfl) ?_); intro w2 hS2)
 exact bodyPost_ret (results_cell rfl rfl A_integer (by kernel_rfl) (hS2.blk 0 rfl).1) rfl ⟨rfl, hS2.b⟩

theorem SL.ownB {α : Type} {c : α → Value} {sz B n cap : Nat} {e : TypeId} {w0 w : World} {L : List Pc} {a : Option Addr} {l : List α} (h : SL B w0 w L) (i : Nat) (hi : L[i]? = some (pOwn c sz e (.slice a n cap) l)) : ∀ b, a = some b → B ≤ b.block := by
 obtain ⟨b, hP, hB, _⟩ := h.upd i hi
 intro b' e1
 subst e1
 exact hB b'.block (hP.2.symm.trans rfl)
/-- an integer of the reference that is not negative, and small. -/
def NatR (w : World) (v : Value) (n : Nat) : Prop := ∃ a cap, v = .agg #[.bool false, .slice a (wD n).length cap] ∧ Ints w a cap (wD n)
theorem NatR.below {w w' : World} {v : Value} {n : Nat} (h : NatR w v n) (hb : Below w.heap.size w w') : NatR w' v n := by
 obtain ⟨a, cap, h1, h2⟩ := h; exact ⟨a, cap, h1, h2.below hb⟩

theorem rwhole_any (x : Nat) (w : World) (hx : x < 1000000000) :
  Calls Tryz.prog 117 #[.int .i64 x] w fun r w' => ∃ a cap, r = .returned (.agg #[.bool false, .slice a (wD x).length cap]) ∧ Ints w' a cap (wD x) ∧ (∀ b, a = some b → w.heap.size ≤ b.block) ∧ Below w.heap.size w w' := by
 have CS := fun a cap w hS => rsigned_any x a cap w hS
 have CE := fun a cap w => rsignedE_any a cap w
 have HS := hid CS; have HE := hid CE; clear CS CE
 have hS0 := ((SL.nil w).box (.cells #[.bool false, .slice none 0 0] 144)).nilS (α := Int) (c := cInt) (sz := 1) (e := 3) cIntS
 by_cases h0 : x = 0
 ·subst h0
  go_enter Tryz.func117, Tryz.ntmps117
  go_wp2_with fail
  go_loopw [0, 3, 5] (fun nv wv _ wr => nv = .int .i64 0 ∧ wv = .slice none 0 0 ∧ SL w.heap.size w wr [pBlk w.heap.size (.cells #[.bool false, .slice none 0 0] 144)]) (fun _ _ _ _ => 0)
  case atStart => exact ⟨rfl, rfl, hS0.tail⟩
  case round =>
   obtain ⟨rfl, rfl, hSL⟩ := hrel
   go_wp2_with fail
   refine (HE.out none 0 wr).mono ?_
   rintro e w1 ⟨rfl, b1⟩
   have hSL1 := hSL.mono b1
   go_wp2_with ((with_reducible refine wpList_stoR (us := #[.bool false, .slice none 0 0]) 0 (by with_unfolding_all rfl) (by with_unfolding_all rfl) (hSL1) (by with_unfolding_all rfl) (by kernel_rfl) (by with_unfolding_all rfl) (by with_unfolding_all rfl) ?_); intro w2 hS2)
   exact bodyPost_ret (results_cell rfl rfl A_integer (by kernel_rfl) (hS2.blk 0 rfl).1) rfl ⟨none, 0, rfl, ints_nil _, (fun b e => by cases e), hS2.b⟩
 ·have hmod : (x : Int) % 1000000000 = x := Int.emod_eq_of_lt (by omega) (by omega)
  have hdiv : (x : Int) / 1000000000 = 0 := Int.ediv_eq_zero_of_lt (by omega) (by omega)
  have hne : ((x : Int) != 0) = true := by simp; omega
  go_enter Tryz.func117, Tryz.ntmps117
  go_wp2_with fail
  go_loopw [0, 3, 5] (fun nv wv _ wr => ∃ (c : Nat) (l : List Int), nv = .int .i64 c ∧ ((c = x ∧ l = []) ∨ (c = 0 ∧ l = [(x : Int)])) ∧ SL w.heap.size w wr [pOwn cInt 1 3 wv l, pBlk w.heap.size (.cells #[.bool false, .slice none 0 0] 144)]) (fun nv _ _ _ => (intOf nv).toNat)
  case atStart => exact ⟨x, [], rfl, .inl ⟨rfl, rfl⟩, hS0⟩
  case round =>
   clear hS0
   obtain ⟨c, l, rfl, ⟨rfl, rfl⟩ | ⟨rfl, rfl⟩, hSL⟩ := hrel
   ·have hl0 : ([] : List Int).length ≤ 5 := by simp
    go_wp2_with ((with_reducible refine wpList_pushL (y := (c : Int)) 0 E_ints (by with_unfolding_all rfl) (by with_unfolding_all rfl) (hSL) (by with_unfolding_all rfl) cIntO ⟨rfl, rfl⟩ (by first | with_unfolding_all rfl | simp) (by with_unfolding_all rfl) (by first | omega | (simp; omega)) (by first | omega | (simp; omega)) ?_); intro v3 w3 hS3)
    exact ⟨⟨0, _, rfl, .inr ⟨rfl, rfl⟩, hS3⟩, by simp [intOf]; omega⟩
   ·obtain ⟨a, cap, rfl, hR⟩ := hSL.slice 0 rfl
    clear hmod hdiv hne
    go_wp2_with fail
    refine (HS.out a cap wr hR).mono ?_
    rintro e w1 ⟨rfl, b1⟩
    have hSL1 := hSL.mono b1
    go_wp2_with ((with_reducible refine wpList_stoR (us := #[.bool false, .slice a (wD x).length cap]) 1 (by with_unfolding_all rfl) (by with_unfolding_all rfl) (hSL1) (by with_unfolding_all rfl) (by kernel_rfl) (by with_unfolding_all rfl) (by with_unfolding_all rfl) ?_); intro w2 hS2)
    exact bodyPost_ret (results_cell rfl rfl A_integer (by kernel_rfl) (hS2.blk 1 rfl).1) rfl ⟨a, cap, rfl, wd_ints (hS2.rd 0 rfl), hS2.ownB 0 rfl, hS2.b⟩

theorem rtext_any (x : Nat) (v : Value) (w : World) (hx : x < 1000000000) (hv : NatR w v x) :
  Calls Tryz.prog 116 #[v] w fun r w' => r = .returned (.string (itoaB x)) ∧ Below w.heap.size w w' := by
 obtain ⟨a, cap, rfl, hR⟩ := hv
 have CD := fun w => rdecimal_any x w (by omega)
 have HD := hid CD; clear CD
 rcases wd_cases x with ⟨h0, hw⟩ | ⟨h0, hw⟩
 ·subst h0
  rw [hw]
  have hz : itoaB ((0 : Nat) : Int) = ⟨#[48]⟩ := by rw [itoaB_nat, decD_small (by decide)]; rfl
  rw [hz]
  clear hz hw hR
  go_enter Tryz.func116, Tryz.ntmps116
  go_wp2_with fail
  go_ret
  exact ⟨rfl, bal (Below.refl _ _) _⟩
 ·rw [hw] at hR ⊢
  clear hw
  have hR1 := hR.alloc (.cells #[.bool false, .slice a 1 cap] 144)
  go_enter Tryz.func116, Tryz.ntmps116
  go_wp2_with (with_reducible refine wpList_idx _ 0 E_ints F_int cInt1 (by with_unfolding_all rfl) (by with_unfolding_all rfl) (hR1) (by first | omega | (simp; done)) (by first | omega | (simp; done)) (fun _ => by with_unfolding_all rfl) (fun _ => ?_))
  refine (HD.out _).mono ?_
  rintro e w1 ⟨rfl, rfl⟩
  go_wp2_with fail
  go_loopw [3, 4] (fun sv iv wr => sv = .string (itoaB x) ∧ iv = .int .i64 (-1) ∧ wr = w.alloc (.cells #[.bool false, .slice a 1 cap] 144)) (fun _ _ _ => 0)
  case atStart => exact ⟨rfl, rfl, rfl⟩
  case round =>
   obtain ⟨rfl, rfl, rfl⟩ := hrel
   go_wp2_with fail
   go_ret
   exact ⟨rfl, bal (Below.refl _ _) _⟩

theorem rparse_any (x : Nat) (w : World) (hx : x < 1000000000) :
  Calls Tryz.prog 151 #[.string (itoaB x)] w fun r w' => ∃ a cap, r = .returned (.agg #[.bool false, .slice a (wD x).length cap]) ∧ Ints w' a cap (wD x) ∧ (∀ b, a = some b → w.heap.size ≤ b.block) ∧ Below w.heap.size w w' := by
 obtain ⟨z1, z2⟩ := itoaB_len hx
 have hd := itoaB_dig z2
 have CV := fun w => rvalue_any x w hx
 have CS := fun a cap w hS => rsigned_any x a cap w hS
 have HS := hid CS; clear CS
 obtain ⟨s, hs⟩ : ∃ s, s = itoaB (x : Int) := ⟨_, rfl⟩
 rw [← hs] at z1 z2 hd CV ⊢
 have HV := hid CV
 rw [byteAt_in z2] at hd
 have d1 : (((s[0]'z2).toNat : Int) == 45) = false := by simp; omega
 clear CV hs hd
 have hS0 := ((SL.nil w).box (.cells #[.bool false, .slice none 0 0] 144)).nilS (α := Int) (c := cInt) (sz := 1) (e := 3) cIntS
 go_enter Tryz.func151, Tryz.ntmps151
 go_wp2_with fail
 go_loopw [0, 4] (fun sv wv wr => sv = .string s ∧ wv = .slice none 0 0 ∧ SL w.heap.size w wr [pOwn cInt 1 3 (.slice none 0 0) [], pBlk w.heap.size (.cells #[.bool false, .slice none 0 0] 144)]) (fun _ _ _ => 0)
 case atStart => exact ⟨rfl, rfl, hS0⟩
 case round =>
  obtain ⟨rfl, rfl, hSL⟩ := hrel
  clear hS0
  have hl0 : ([] : List Int).length ≤ 5 := by simp
  go_wp2_with (first | (go_at_call 149; with_reducible refine (HV.out _).mono ?_; rintro e w' ⟨rfl, rfl⟩) | ((with_reducible refine wpList_pushL (y := (x : Int)) 0 E_ints (by with_unfolding_all rfl) (by with_unfolding_all rfl) (hSL) (by with_unfolding_all rfl) cIntO ⟨rfl, rfl⟩ (by first | with_unfolding_all rfl | simp) (by with_unfolding_all rfl) (by first | omega | (simp; omega)) (by first | omega | (simp; omega)) ?_); intro v3 w3 hS3))
  obtain ⟨a, cap, rfl, hR⟩ := hS3.slice 0 rfl
  go_wp2_with fail
  refine (HS.out a cap w3 hR).mono ?_
  rintro e w1 ⟨rfl, b1⟩
  have hSL1 := hS3.mono b1
  go_wp2_with ((with_reducible refine wpList_stoR (us := #[.bool false, .slice a (wD x).length cap]) 1 (by with_unfolding_all rfl) (by with_unfolding_all rfl) (hSL1) (by with_unfolding_all rfl) (by kernel_rfl) (by with_unfolding_all rfl) (by with_unfolding_all rfl) ?_); intro w2 hS2)
  exact bodyPost_ret (results_cell rfl rfl A_integer (by kernel_rfl) (hS2.blk 1 rfl).1) rfl ⟨a, cap, rfl, wd_ints (hS2.rd 0 rfl), hS2.ownB 0 rfl, hS2.b⟩

theorem rFromInt_any (x : Nat) (w : World) (hx : x < 1000000000) :
  Calls Tryz.prog 67 #[.int .i64 x] w fun r w' => r = .returned (.string (itoaB x)) ∧ Below w.heap.size w w' := by
 have CW := fun w => rwhole_any x w hx
 have CT := fun v w hv => rtext_any x v w hx hv
 have HW := hid CW; have HT := hid CT; clear CW CT
 go_enter Tryz.func67, Tryz.ntmps67
 go_wp2_with fail
 refine (HW.out w).mono ?_
 rintro e w1 ⟨a1, c1, rfl, h1, _, b1⟩
 go_wp2_with fail
 refine (HT.out _ w1 ⟨a1, c1, rfl, h1⟩).mono ?_
 rintro e w2 ⟨rfl, b2⟩
 go_wp2_with fail
 go_ret
 exact ⟨rfl, bnext b1 b2⟩

def cmpN (x y : Nat) : Int := if x < y then -1 else if y < x then 1 else 0
theorem rcompare_any (x y : Nat) (a b : Option Addr) (cap cap2 : Nat) (w : World) (hy0 : 0 < y) (hS : Ints w a cap (wD x)) (hT : Ints w b cap2 (wD y)) :
  Calls Tryz.prog 181 #[.slice a (wD x).length cap, .slice b (wD y).length cap2] w fun r w' => r = .returned (.int .i64 (cmpN x y)) ∧ Below w.heap.size w w' := by
 have hw2 := wD_pos hy0
 rw [hw2] at hT ⊢
 clear hw2
 rcases wd_cases x with ⟨h0, hw⟩ | ⟨h0, hw⟩
 ·have e : cmpN x y = -1 := by unfold cmpN; rw [if_pos (by omega)]
  rw [hw, e]
  clear hw e hS
  go_enter Tryz.func181, Tryz.ntmps181
  go_wp2_with fail
  go_ret
  exact ⟨rfl, Below.refl _ _⟩
 ·rw [hw] at hS ⊢
  clear hw
  have hx0 : atD 0 [(x : Int)] 0 = x := rfl
  have hy1 : atD 0 [(y : Int)] 0 = y := rfl
  go_enter Tryz.func181, Tryz.ntmps181
  go_wp2_with fail
  go_loopw [5] (fun iv wr => (iv = .int .i64 0 ∨ (iv = .int .i64 (-1) ∧ x = y)) ∧ Below w.heap.size w wr) (fun iv _ => (intOf iv + 1).toNat)
  case atStart => exact ⟨.inl rfl, Below.refl _ _⟩
  case round =>
   obtain ⟨rfl | ⟨rfl, rfl⟩, hbr⟩ := hrel
   ·have hSr := hS.below hbr
    have hTr := hT.below hbr
    go_wp2_with fail
    refine wp_region_quiet_lit (by kernel_rfl) (by kernel_rfl) ?_
    repeat (first | ((with_reducible refine wpQD_idx 0 E_ints F_int cInt1 (by with_unfolding_all rfl) (by with_unfolding_all rfl) (hSr) (by first | omega | (simp; done)) (by first | omega | (simp; done)) (fun _ => by with_unfolding_all rfl) (fun _ => ?_)); (try simp only [Act.put, pA, pB, pC]); (try simp only [cInt])) | ((with_reducible refine wpQD_idx 0 E_ints F_int cInt1 (by with_unfolding_all rfl) (by with_unfolding_all rfl) (hTr) (by first | omega | (simp; done)) (by first | omega | (simp; done)) (fun _ => by with_unfolding_all rfl) (fun _ => ?_)); (try simp only [Act.put, pA, pB, pC]); (try simp only [cInt])) | quiet_step (fail))
    refine wpQuiet_nil ?_
    intro w2 hb2
    replace hb2 := below_drewN hb2
    try rw [hx0, hy1]
    have hSr2 := hSr.below hb2
    have hTr2 := hTr.below hb2
    by_cases h1 : x < y
    ·have e : cmpN x y = -1 := by unfold cmpN; rw [if_pos h1]
     have HE := hid e; clear e
     have h1' : (x : Int) < y := by omega
     go_wp2_with fail
     go_ret
     exact ⟨by rw [HE.out]; rfl, bnext hbr hb2⟩
    ·have h1' : ¬ (x : Int) < y := by omega
     go_wp2_with fail
     refine wp_region_quiet_lit (by kernel_rfl) (by kernel_rfl) ?_
     repeat (first | ((with_reducible refine wpQD_idx 0 E_ints F_int cInt1 (by with_unfolding_all rfl) (by with_unfolding_all rfl) (hSr2) (by first | omega | (simp; done)) (by first | omega | (simp; done)) (fun _ => by with_unfolding_all rfl) (fun _ => ?_)); (try simp only [Act.put, pA, pB, pC]); (try simp only [cInt])) | ((with_reducible refine wpQD_idx 0 E_ints F_int cInt1 (by with_unfolding_all rfl) (by with_unfolding_all rfl) (hTr2) (by first | omega | (simp; done)) (by first | omega | (simp; done)) (fun _ => by with_unfolding_all rfl) (fun _ => ?_)); (try simp only [Act.put, pA, pB, pC]); (try simp only [cInt])) | quiet_step (fail))
     refine wpQuiet_nil ?_
     intro w3 hb3
     replace hb3 := below_drewN hb3
     try rw [hx0, hy1]
     have b3 := bnext hbr (bnext hb2 hb3)
     by_cases h2 : y < x
     ·have e : cmpN x y = 1 := by unfold cmpN; rw [if_neg h1, if_pos h2]
      have HE := hid e; clear e
      have h2' : (y : Int) < x := by omega
      go_wp2_with fail
      go_ret
      exact ⟨by rw [HE.out]; rfl, b3⟩
     ·have h2' : ¬ (y : Int) < x := by omega
      go_wp2_with fail
      exact ⟨⟨.inr ⟨rfl, by omega⟩, b3⟩, by simp [intOf]⟩
   ·have e : cmpN x x = 0 := by unfold cmpN; rw [if_neg (by omega), if_neg (by omega)]
    have HE := hid e; clear e
    go_wp2_with fail
    go_ret
    exact ⟨by rw [HE.out]; rfl, hbr⟩

theorem rdivDigit_any (x y : Nat) (a : Option Addr) (cap : Nat) (w : World) (hx : x < 1000000000) (hy : y < 1000000000) (hy0 : 0 < y) (hS : Ints w a cap [(x : Int)]) :
  Calls Tryz.prog 182 #[.slice a 1 cap, .int .i64 y] w fun r w' => ∃ a1 c1, r = .returned (.tuple #[.slice a1 (wD (x / y)).length c1, .int .i64 ((x % y : Nat) : Int)]) ∧ Ints w' a1 c1 (wD (x / y)) ∧ Below w.heap.size w w' := by
 have CT := fun a cap w hS => rtrim_any (x / y) a cap w hS
 have HT := hid CT; clear CT
 have hS0 := SL.nil w
 have hx0 : atD 0 [(x : Int)] 0 = x := rfl
 have q1 : ((x / y : Nat) : Int) = (x : Int) / y := Int.natCast_ediv x y
 have q2 : ((x % y : Nat) : Int) = (x : Int) % y := Int.natCast_emod x y
 have b1 : 0 ≤ (x : Int) / y := Int.ediv_nonneg (by omega) (by omega)
 have b2 : (x : Int) / y ≤ x := Int.ediv_le_self _ (by omega)
 have b3 : 0 ≤ (x : Int) % y := Int.emod_nonneg _ (by omega)
 have b4 : (x : Int) % y < y := Int.emod_lt_of_pos _ (by omega)
 have hw1 : IntKind.i64.wrap ((x : Int) / y) = (x : Int) / y := IntWalk.i64_in _ (by omega)
 have hw2 : IntKind.i64.wrap ((x : Int) % y) = (x : Int) % y := IntWalk.i64_in _ (by omega)
 have q3 : (x : Int).tdiv y = (x : Int) / y := Int.tdiv_eq_ediv_of_nonneg (by omega)
 have q4 : (x : Int).tmod y = (x : Int) % y := Int.tmod_eq_emod_of_nonneg (by omega)
 have hq : x / y ≤ x := Nat.div_le_self _ _
 have hr : x % y < y := Nat.mod_lt _ hy0
 have hyn : ¬ (y : Int) = 0 := by omega
 have Q1 := hid q1; have Q2 := hid q2
 rw [q2]
 clear q1 q2
 go_enter Tryz.func182, Tryz.ntmps182
 go_wp2_with ((with_reducible refine wpList_makeL (c := cInt) (1) (0) E_ints cInt1 (by with_unfolding_all rfl) (by with_unfolding_all rfl) (by omega) (by omega) (hS0) ?_); intro ad w1 hS1)
 go_loopw [7, 8, 9] (fun rv iv _ wr => ((rv = .int .i64 0 ∧ iv = .int .i64 0 ∧ SL w.heap.size w wr [pOwn cInt 1 3 (.slice ad 1 1) [0]]) ∨ (rv = .int .i64 ((x : Int) % y) ∧ iv = .int .i64 (-1) ∧ SL w.heap.size w wr [pOwn cInt 1 3 (.slice ad 1 1) [(x : Int) / y]]))) (fun _ iv _ _ => (intOf iv + 1).toNat)
 case atStart => exact .inl ⟨rfl, rfl, hS1⟩
 case round =>
  rcases hrel with ⟨rfl, rfl, hSL⟩ | ⟨rfl, rfl, hSL⟩
  ·have hSr := hS.below hSL.b
   go_wp2_with (first | ((with_reducible refine wpList_idx _ 0 E_ints F_int cInt1 (by with_unfolding_all rfl) (by with_unfolding_all rfl) (hSr) (by first | omega | (simp; done)) (by first | omega | (simp; done)) (fun _ => by with_unfolding_all rfl) (fun _ => ?_)); try rw [hx0]) | ((with_reducible refine wpList_storeL (u := ((x : Int) / y)) 0 E_ints cInt1 (sto_int) (by with_unfolding_all rfl) (by with_unfolding_all rfl) (hSL) (by with_unfolding_all rfl) (by first | omega | (simp; done) | (simp; omega)) (by first | omega | (simp; done) | (simp; omega)) (fun _ => by with_unfolding_all rfl) (fun _ => by with_unfolding_all rfl) ?_); intro _ w3 hS3))
   exact ⟨.inr ⟨rfl, rfl, hS3⟩, by simp [intOf]⟩
  ·have hR := hSL.rd 0 rfl
   rw [← Q1.out] at hR
   clear q3 q4 hw1 hw2
   go_wp2_with fail
   refine (HT.out ad 1 wr hR).mono ?_
   rintro e w1 ⟨rfl, rfl⟩
   go_wp2_with fail
   go_ret2
   exact ⟨_, _, rfl, wd_ints hR, hSL.b⟩
end Go.Proofs.YtbchpkmcpplidaaGreatDoor

namespace Go.Proofs.YtbchpkmcpplidaaGreatDoor
open Go.RowKit
set_option maxHeartbeats 2000000
set_option maxRecDepth 100000

theorem rdivDigits_any (x y : Nat) (a b : Option Addr) (cap cap2 : Nat) (w : World) (hx : x < 1000000000) (hy : y < 1000000000) (hy0 : 0 < y) (hS : Ints w a cap (wD x)) (hT : Ints w b cap2 (wD y)) :
  Calls Tryz.prog 154 #[.slice a (wD x).length cap, .slice b (wD y).length cap2] w fun r w' => ∃ a1 c1 a2 c2, r = .returned (.tuple #[.slice a1 (wD (x / y)).length c1, .slice a2 (wD (x % y)).length c2]) ∧ Ints w' a1 c1 (wD (x / y)) ∧ Ints w' a2 c2 (wD (x % y)) ∧ Below w.heap.size w w' := by
 have CC := rcompare_any x y a b cap cap2 w hy0 hS hT
 by_cases h1 : x < y
 ·have e0 : cmpN x y = -1 := by unfold cmpN; rw [if_pos h1]
  have e1 : x / y = 0 := Nat.div_eq_of_lt h1
  have e2 : x % y = x := Nat.mod_eq_of_lt h1
  rw [e0] at CC
  rw [e1, e2]
  have HC := hid CC
  clear e0 e1 e2 CC
  go_enter Tryz.func154, Tryz.ntmps154
  go_wp2_with fail
  refine HC.out.mono ?_
  rintro e w1 ⟨rfl, b1⟩
  go_wp2_with fail
  go_ret2
  exact ⟨none, 0, a, cap, rfl, ints_nil _, hS.below b1, b1⟩
 ·have hc : 0 ≤ cmpN x y := by unfold cmpN; rw [if_neg h1]; split <;> omega
  have hxw := wD_pos (show 0 < x by omega)
  have hyw := wD_pos hy0
  rw [hxw] at hS CC ⊢
  rw [hyw] at hT CC ⊢
  have hy1 : atD 0 [(y : Int)] 0 = y := rfl
  have CD := fun w hS => rdivDigit_any x y a cap w hx hy hy0 hS
  have CT := fun a cap w hS => rtrim_any (x % y) a cap w hS
  obtain ⟨k, hk⟩ : ∃ k, k = cmpN x y := ⟨_, rfl⟩
  rw [← hk] at CC hc
  have HC := hid CC; have HD := hid CD; have HT := hid CT
  clear CC CD CT hk hxw hyw
  go_enter Tryz.func154, Tryz.ntmps154
  go_wp2_with fail
  refine HC.out.mono ?_
  rintro e w1 ⟨rfl, b1⟩
  have hT1 := hT.below b1
  go_wp2_with ((with_reducible refine wpList_idx _ 0 E_ints F_int cInt1 (by with_unfolding_all rfl) (by with_unfolding_all rfl) (hT1) (by first | omega | (simp; done)) (by first | omega | (simp; done)) (fun _ => by with_unfolding_all rfl) (fun _ => ?_)); try rw [hy1])
  refine (HD.out w1 (hS.below b1)).mono ?_
  rintro e w2 ⟨a2, c2, rfl, hq, b2⟩
  have hR := reps_new1 (w := w2) (e := 3) cIntS ((x % y : Nat) : Int) #[.int .i64 ((x % y : Nat) : Int)] (0, 0) rfl rfl
  go_wp2_with fail
  refine (HT.out _ _ _ hR).mono ?_
  rintro e w3 ⟨rfl, rfl⟩
  go_wp2_with fail
  go_ret2
  exact ⟨_, _, _, _, rfl, hq.alloc _, wd_ints hR, bal (bnext b1 b2) _⟩

theorem rcommon_any (x y : Nat) (a b : Option Addr) (cap cap2 : Nat) (w : World) (hx : x < 1000000000) (hy : y < 1000000000) (hS : Ints w a cap (wD x)) (hT : Ints w b cap2 (wD y)) :
  Calls Tryz.prog 153 #[.slice a (wD x).length cap, .slice b (wD y).length cap2] w fun r w' => ∃ a1 c1, r = .returned (.slice a1 (wD (Nat.gcd x y)).length c1) ∧ Ints w' a1 c1 (wD (Nat.gcd x y)) ∧ Below w.heap.size w w' := by
 go_enter Tryz.func153, Tryz.ntmps153
 go_wp2_with fail
 go_loopg [0, 1, 5, 6] y (fun g va vb _ _ wr => ∃ (p q : Nat) (a b : Option Addr) (ca cb : Nat), g = q ∧ va = .slice a (wD p).length ca ∧ vb = .slice b (wD q).length cb ∧ Ints wr a ca (wD p) ∧ Ints wr b cb (wD q) ∧ p < 1000000000 ∧ q < 1000000000 ∧ Aside (Nat.gcd p q = Nat.gcd x y) ∧ Below w.heap.size w wr)
 case atStart => exact ⟨x, y, a, b, cap, cap2, rfl, rfl, rfl, hS, hT, hx, hy, rfl, Below.refl _ _⟩
 case round =>
  obtain ⟨p, q, a, b, ca, cb, rfl, rfl, rfl, hSr, hTr, hp, hq, HG, hbr⟩ := hrel
  by_cases h0 : gk = 0
  ·subst h0
   have e : p = Nat.gcd x y := by rw [← HG.out, Nat.gcd_zero_right]
   have HE := hid e
   have hl : (wD 0).length ≤ 0 := Nat.le_refl _
   clear e
   go_wp2_with fail
   go_ret
   rw [← HE.out]
   exact ⟨a, ca, rfl, hSr, hbr⟩
  ·have hl : 0 < (wD gk).length := by rw [wD_pos (by omega)]; simp
   have CD := fun w hS hT => rdivDigits_any p gk a b ca cb w hp hq (by omega) hS hT
   have HD := hid CD
   clear CD
   go_wp2_with fail
   refine (HD.out wr hSr hTr).mono ?_
   rintro e w2 ⟨a1, c1, a2, c2, rfl, h1, h2, b2⟩
   have hm : p % gk < gk := Nat.mod_lt _ (by omega)
   go_wp2_with fail
   go_roundg (p % gk)
   case measure => exact hm
   case rel => exact ⟨gk, p % gk, b, a2, cb, c2, rfl, rfl, rfl, hTr.below b2, h2, hq, by omega, by show Nat.gcd gk (p % gk) = _; rw [← HG.out, Nat.gcd_comm gk, ← Nat.gcd_rec, Nat.gcd_comm], bnext hbr b2⟩

theorem rparts_any (x : Nat) (w : World) (hx : x < 1000000000) :
  Calls Tryz.prog 120 #[.string (itoaB x)] w fun r w' => ∃ a c b d, r = .returned (.tuple #[.agg #[.bool false, .slice a (wD x).length c], .agg #[.bool false, .slice b (wD 1).length d]]) ∧ Ints w' a c (wD x) ∧ Ints w' b d (wD 1) ∧ Below w.heap.size w w' := by
 have hsl := textQ_slash x 1
 rw [textQ_one] at hsl
 have hz := (itoaB_len hx).1
 have CP := fun w => rparse_any x w hx
 have CW := fun w => rwhole_any 1 w (by decide)
 obtain ⟨s, hs⟩ : ∃ s, s = itoaB (x : Int) := ⟨_, rfl⟩
 rw [← hs] at hsl hz CP ⊢
 have CS := fun w => rslash_any s s.size w hsl (by omega)
 have HP := hid CP; have HW := hid CW; have HS := hid CS
 clear CP CW CS hs hsl
 have hS0 := ((SL.nil w).box (.cells #[.bool false, .slice none 0 0] 144)).box (.cells #[.bool false, .slice none 0 0] 144)
 simp only [World.size_alloc] at hS0
 go_enter Tryz.func120, Tryz.ntmps120
 go_wp2_with fail
 refine (HS.out _).mono ?_
 rintro e w' ⟨rfl, rfl⟩
 go_wp2_with fail
 refine (HP.out _).mono ?_
 rintro e w1 ⟨a, c, rfl, h1, f1, b1⟩
 have hS1 := hS0.newRd b1 h1 (by decide) f1
 go_wp2_with fail
 refine (HW.out _).mono ?_
 rintro e w2 ⟨b, d, rfl, h2, f2, b2⟩
 have hS2 := hS1.newRd b2 h2 (by decide) f2
 clear hS0 hS1
 go_wp2_with (first | ((with_reducible refine wpList_stoR (us := #[.bool false, .slice a (wD x).length c]) 3 (by with_unfolding_all rfl) (by with_unfolding_all rfl) (hS2) (by with_unfolding_all rfl) (by kernel_rfl) (by with_unfolding_all rfl) (by with_unfolding_all rfl) ?_); intro w3 hS3) | ((with_reducible refine wpList_stoR (us := #[.bool false, .slice b (wD 1).length d]) 2 (by with_unfolding_all rfl) (by with_unfolding_all rfl) (hS3) (by with_unfolding_all rfl) (by kernel_rfl) (by with_unfolding_all rfl) (by with_unfolding_all rfl) ?_); intro w4 hS4))
 exact bodyPost_ret (results_cell2 rfl rfl rfl A_integer (by kernel_rfl) (by kernel_rfl) (hS4.blk 3 rfl).1 (hS4.blk 2 rfl).1) rfl ⟨a, c, b, d, rfl, hS4.rdR 1 rfl, hS4.rdR 0 rfl, hS4.b⟩

theorem rfraction_any (x y : Nat) (a b : Option Addr) (c d : Nat) (w : World) (hx : x < 1000000000) (hy : y < 1000000000) (hx0 : 0 < x) (hy0 : 0 < y) (hS : Ints w a c (wD x)) (hT : Ints w b d (wD y)) :
  Calls Tryz.prog 121 #[.agg #[.bool false, .slice a (wD x).length c], .agg #[.bool false, .slice b (wD y).length d]] w fun r w' => r = .returned (.string (textQ (x / Nat.gcd x y) (y / Nat.gcd x y))) ∧ Below w.heap.size w w' := by
 have hg0 : 0 < Nat.gcd x y := Nat.gcd_pos_of_pos_left _ hx0
 have hgx : Nat.gcd x y ≤ x := Nat.gcd_le_left _ hx0
 have CC := fun w hS hT => rcommon_any x y a b c d w hx hy hS hT
 obtain ⟨g, hg⟩ : ∃ g, g = Nat.gcd x y := ⟨_, rfl⟩
 rw [← hg] at hg0 hgx CC ⊢
 have hp0 : 0 < x / g := by rw [hg]; exact Nat.div_pos (Nat.gcd_le_left _ hx0) (Nat.gcd_pos_of_pos_left _ hx0)
 have hq0 : 0 < y / g := by rw [hg]; exact Nat.div_pos (Nat.gcd_le_right _ hy0) (Nat.gcd_pos_of_pos_left _ hx0)
 have hp1 : x / g ≤ x := Nat.div_le_self _ _
 have hq1 : y / g ≤ y := Nat.div_le_self _ _
 have CD1 := fun a1 c1 w hS hT => rdivDigits_any x g a a1 c c1 w hx (by omega) hg0 hS hT
 have CD2 := fun a1 c1 w hS hT => rdivDigits_any y g b a1 d c1 w hy (by omega) hg0 hS hT
 obtain ⟨p, hp⟩ : ∃ p, p = x / g := ⟨_, rfl⟩
 obtain ⟨q, hq⟩ : ∃ q, q = y / g := ⟨_, rfl⟩
 rw [← hp] at hp0 hp1 CD1 ⊢
 rw [← hq] at hq0 hq1 CD2 ⊢
 have hpw := wD_pos hp0
 have hqw := wD_pos hq0
 rw [hpw] at CD1
 rw [hqw] at CD2
 have CG1 := fun a c w hS => rsigned_any p a c w hS
 have CG2 := fun a c w hS => rsigned_any q a c w hS
 have CT1 := fun v w hv => rtext_any p v w (by omega) hv
 have CT2 := fun v w hv => rtext_any q v w (by omega) hv
 have hzp := (itoaB_len (show p < 1000000000 by omega)).1
 have hzq := (itoaB_len (show q < 1000000000 by omega)).1
 have HC := hid CC; have HD1 := hid CD1; have HD2 := hid CD2; have HG1 := hid CG1; have HG2 := hid CG2; have HT1 := hid CT1; have HT2 := hid CT2
 clear CC CD1 CD2 CG1 CG2 CT1 CT2 hpw hqw hp hq hg
 have hS0 := ((SL.nil w).box (.cells #[.bool false, .slice a (wD x).length c] 144)).box (.cells #[.bool false, .slice b (wD y).length d] 144)
 simp only [World.size_alloc] at hS0
 go_enter Tryz.func121, Tryz.ntmps121
 go_wp2_with fail
 refine (HC.out _ (hS.below hS0.b) (hT.below hS0.b)).mono ?_
 rintro e w1 ⟨a1, c1, rfl, h1, b1⟩
 have hS1 := hS0.mono b1
 have k1 := hS1.cell 1 rfl 1 rfl
 go_wp2_with fail
 refine (HD1.out a1 c1 w1 (hS.below hS1.b) h1).mono ?_
 rintro e w2 ⟨a2, c2, a3, c3, rfl, h2, h3, b2⟩
 have hS2 := hS1.mono b2
 have h12 := h1.below b2
 have k2 := hS2.cell 0 rfl 1 rfl
 clear k1 h3
 go_wp2_with fail
 refine (HD2.out a1 c1 w2 (hT.below hS2.b) h12).mono ?_
 rintro e w3 ⟨a4, c4, a5, c5, rfl, h4, h5, b3⟩
 have hS3 := hS2.mono b3
 have k3 := hS3.cell 1 rfl 0 rfl
 clear k2 h5
 go_wp2_with fail
 refine (HG1.out a2 c2 w3 (h2.below b3)).mono ?_
 rintro e w4 ⟨rfl, b4⟩
 go_wp2_with fail
 refine (HT1.out _ w4 ⟨a2, c2, rfl, wd_ints ((h2.below b3).below b4)⟩).mono ?_
 rintro e w5 ⟨rfl, b5⟩
 have hS5 := (hS3.mono b4).mono b5
 have h45 := (h4.below b4).below b5
 clear k3 h2 h12 h1 h4
 have hq1' : atD 0 [(q : Int)] 0 = q := rfl
 by_cases e1 : q = 1
 ·subst e1
  have HTQ := hid (textQ_one p)
  go_wp2_with ((with_reducible refine wpList_idxG 0 E_ints F_int cInt1 (by with_unfolding_all rfl) (by with_unfolding_all rfl) (h45) (rfl) (by first | omega | (simp; done)) (by first | omega | (simp; done)) (fun _ => by with_unfolding_all rfl) (by with_unfolding_all rfl) (fun _ => by with_unfolding_all rfl) (fun _ => ?_)); try rw [hq1'])
  go_ret
  exact ⟨by rw [HTQ.out]; rfl, hS5.b⟩
 ·have hd : ((q : Int) == 1) = false := by simp; omega
  have ht : textQ p q = itoaB (p : Int) ++ ⟨#[47]⟩ ++ itoaB (q : Int) := by unfold textQ; rw [if_neg e1]
  have HTQ := hid ht; clear ht
  go_wp2_with ((with_reducible refine wpList_idxG 0 E_ints F_int cInt1 (by with_unfolding_all rfl) (by with_unfolding_all rfl) (h45) (rfl) (by first | omega | (simp; done)) (by first | omega | (simp; done)) (fun _ => by with_unfolding_all rfl) (by with_unfolding_all rfl) (fun _ => by with_unfolding_all rfl) (fun _ => ?_)); try rw [hq1'])
  refine (HG2.out a4 c4 w5 h45).mono ?_
  rintro e w6 ⟨rfl, b6⟩
  go_wp2_with fail
  refine (HT2.out _ w6 ⟨a4, c4, rfl, wd_ints (h45.below b6)⟩).mono ?_
  rintro e w7 ⟨rfl, b7⟩
  go_wp2_with fail
  go_ret
  exact ⟨by rw [HTQ.out]; rfl, ((hS5.mono b6).mono b7).b⟩
end Go.Proofs.YtbchpkmcpplidaaGreatDoor

namespace Go.Proofs.YtbchpkmcpplidaaGreatDoor
open Go.RowKit
set_option maxHeartbeats 4000000
set_option maxRecDepth 100000

end Go.Proofs.YtbchpkmcpplidaaGreatDoor

namespace Go.Proofs.YtbchpkmcpplidaaGreatDoor
open Go.RowKit
set_option maxHeartbeats 4000000
set_option maxRecDepth 100000

theorem rCycles_any (a : Option Addr) (cap : Nat) (p : List Int) (w : World) (hS : Ints w a cap p) (hp : IsP p) (hn : p.length ≤ 100000) :
  Calls Tryz.prog 18 #[.slice a p.length cap] w fun r w' => ∃ (v : Value) (qs : List (SlH × List Int)), r = .returned v ∧ qs.map Prod.snd = cycK p p.length ∧ SL w.heap.size w w' (pOwn cSl 1 22 v (qs.map Prod.fst) :: qs.map inP) := by
 have hcap := hS.le
 have hm0 := hS.max
 have hS0 := SL.nil w
 go_enter Tryz.func18, Tryz.ntmps18
 go_wp2_with ((with_reducible refine wpList_makeL (c := cBool) (p.length) (false) E_bools cBool1 (by with_unfolding_all rfl) (by with_unfolding_all rfl) (by omega) (by omega) (hS0) ?_); intro ad w1 hS1)
 have hS2 := hS1.nilS (α := SlH) (c := cSl) (sz := 1) (e := 22) cSlS
 go_loopw [3, 5, 6, 7] (fun ov i _ _ wr => ∃ (j : Nat) (S : List Bool) (qs : List (SlH × List Int)), j ≤ p.length ∧ i = .int .i64 j ∧ S.length = p.length ∧ (∀ x : Int, 0 ≤ x → x < p.length → atD false S x = decide (x ∈ (cycK p j).flatten)) ∧ qs.map Prod.snd = cycK p j ∧ SL w.heap.size w wr (pOwn cSl 1 22 ov (qs.map Prod.fst) :: pOwn cBool 1 4 (.slice ad p.length p.length) S :: qs.map inP)) (fun _ i _ _ _ => p.length - (intOf i).toNat)
 case atStart =>
  refine ⟨0, List.replicate p.length false, [], by omega, rfl, by simp, fun x h0 h1 => ?_, rfl, hS2⟩
  have : x.toNat < p.length := by omega
  simp [atD, cycK, this]
 case round =>
  obtain ⟨j, S, qs, hj, rfl, hlen, hsn, hqs, hSL⟩ := hrel
  have HSN := hid hsn; have HL := hid hlen; have HQ := hid hqs
  have hql : qs.length ≤ j := by have := cycK_len p j; rw [← hqs] at this; simpa using this
  have hqlen : (qs.map Prod.fst).length ≤ 100000 := by simp; omega
  clear hsn hlen hqs
  by_cases hlt : j < p.length
  ·have hj0 : (0 : Int) ≤ j := by omega
   have hj1 : (j : Int) < p.length := by omega
   by_cases hin : (j : Int) ∈ (cycK p j).flatten
   ·have hsk := HSN.out j hj0 hj1
    rw [decide_eq_true hin] at hsk
    have HSK := hid hsk; have HIN := hid hin
    clear hsk hin
    go_wp2_with fail
    go_loopw [6, 7] (fun cv kv wq => cv = .slice none 0 0 ∧ kv = .int .i64 j ∧ wr = wq) (fun _ _ _ => 0)
    case atStart => exact ⟨rfl, rfl, rfl⟩
    case round =>
     obtain ⟨rfl, rfl, rfl⟩ := hrel
     have hRB := hSL.rd 1 rfl
     go_wp2_with ((with_reducible refine wpList_idxN _ false E_bools F_bool cBool1 (by with_unfolding_all rfl) (by with_unfolding_all rfl) (hRB) (HL.out) (by first | omega | (simp; done)) (by first | omega | (simp; done)) (fun _ => by with_unfolding_all rfl) (fun _ => ?_)); rw [HSK.out])
     refine ⟨⟨j + 1, S, qs, by omega, by go_num, HL.out, ?_, ?_, hSL⟩, by simp [intOf]; omega⟩
     ·rw [cycK_in HIN.out]; exact HSN.out
     ·rw [cycK_in HIN.out]; exact HQ.out
   ·obtain ⟨d, hd⟩ := ord_ex hp hj0 hj1
    have hd0 := hd.pos
    have hd1 := hd.le
    have HIN := hid hin; have HD := hid hd
    clear hin hd
    go_wp2_with fail
    have hSc := hSL.nilS (α := Int) (c := cInt) (sz := 1) (e := 3) cIntS
    go_loopw [6, 7] (fun cv kv wq => ∃ m : Nat, m ≤ d ∧ kv = .int .i64 (itP p j m) ∧ lenV cv = m ∧ SL w.heap.size w wq (pOwn cInt 1 3 cv (orbK p j m) :: pOwn cSl 1 22 u3 (qs.map Prod.fst) :: pOwn cBool 1 4 (.slice ad p.length p.length) (markL S (orbK p j m)) :: qs.map inP)) (fun cv _ _ => d - lenV cv)
    case atStart => exact ⟨0, by omega, rfl, rfl, hSc⟩
    case round =>
     clear hSc
     obtain ⟨m, hm, rfl, hlv, hSq⟩ := hrel
     have HLV := hid hlv; clear hlv
     have hml := markL_len S (orbK p j m)
     rw [HL.out] at hml
     have hol := orbK_len p j m
     have hole : (orbK p j m).length ≤ 100000 := by rw [hol]; omega
     obtain ⟨x0, x1⟩ := itP_rng hp hj0 hj1 m
     have hin2 : ∀ x ∈ orbK p j m, 0 ≤ x ∧ x < S.length := by
      intro x hx
      obtain ⟨i, _, rfl⟩ := List.mem_map.1 hx
      rw [HL.out]; exact itP_rng hp hj0 hj1 i
     have hat := markL_at (orbK p j m) S hin2 (itP p j m) x0
     rw [HSN.out _ x0 x1] at hat
     have hsuc := orbK_succ p j m
     have hmk := markL_snoc S (orbK p j m) (itP p j m)
     rw [← hsuc] at hmk
     have hSr := hS.below hSq.b
     have hRB := hSq.rd 2 rfl
     have HML := hid hml; have HSU := hid hsuc; have HMK := hid hmk; have HOL := hid hol
     obtain ⟨X, hX⟩ : ∃ X, X = itP p j m := ⟨_, rfl⟩
     have hnx : atD 0 p X = itP p j (m + 1) := by rw [hX]; rfl
     have HNX := hid hnx
     by_cases hmd : m < d
     ·have hf1 := orbK_out hp hlt HIN.out HD.out hm
      have hf2 := orbK_new hp hj0 hj1 HD.out hmd
      rw [decide_eq_false hf1, decide_eq_false hf2] at hat
      have HAT := hid hat
      clear hat hf1 hf2 hin2 hml hsuc hmk hol hnx
      rw [← hX] at HAT HSU HMK x0 x1 ⊢
      clear hX
      have hxm : X < (markL S (orbK p j m)).length := by rw [HML.out]; exact x1
      go_wp2_with (first | ((with_reducible refine wpList_idxN _ false E_bools F_bool cBool1 (by with_unfolding_all rfl) (by with_unfolding_all rfl) (hRB) (HML.out) (by first | omega | (simp; done)) (by first | omega | (simp; done)) (fun _ => by with_unfolding_all rfl) (fun _ => ?_)); rw [HAT.out]) | ((with_reducible refine wpList_storeL (u := true) 2 E_bools cBool1 (sto_bool) (by with_unfolding_all rfl) (by with_unfolding_all rfl) (hSq) (by with_unfolding_all rfl) (by first | omega | (simp; done) | (simp; omega)) (by first | omega | (simp; done) | (simp; omega)) (fun _ => by with_unfolding_all rfl) (fun _ => by with_unfolding_all rfl) ?_); intro _ w3 hS3) | ((with_reducible refine wpList_pushL (y := X) 0 E_ints (by with_unfolding_all rfl) (by with_unfolding_all rfl) (hS3) (by with_unfolding_all rfl) cIntO ⟨rfl, rfl⟩ (by first | with_unfolding_all rfl | simp) (by with_unfolding_all rfl) (by first | omega | (simp; omega)) (by first | omega | (simp; omega)) ?_); intro v4 w4 hS4) | (with_reducible refine wpList_idx _ 0 E_ints F_int cInt1 (by with_unfolding_all rfl) (by with_unfolding_all rfl) ((hS.below hS4.b)) (by first | omega | (simp; done)) (by first | omega | (simp; done)) (fun _ => by with_unfolding_all rfl) (fun _ => ?_)))
      obtain ⟨a4, c4, e4, _⟩ := hS4.slice 0 rfl
      have hl4 : lenV v4 = m + 1 := by rw [e4]; show (orbK p j m ++ [X]).length = m + 1; rw [List.length_append, HOL.out]; rfl
      refine ⟨⟨m + 1, hmd, by rw [HNX.out], hl4, by rw [HSU.out, markL_snoc]; exact hS4⟩, ?_⟩
      rw [hl4, HLV.out]
      omega
     ·have : m = d := by omega
      subst this
      have hmem : itP p j m ∈ orbK p j m := by rw [HD.out.back]; exact List.mem_map.2 ⟨0, by simp [hd0], rfl⟩
      rw [decide_eq_true hmem, Bool.or_true] at hat
      have HAT := hid hat
      have hmarks : ∀ x : Int, 0 ≤ x → x < p.length → atD false (markL S (orbK p j m)) x = decide (x ∈ (cycK p (j + 1)).flatten) := by
       intro x h0 h1
       rw [markL_at (orbK p j m) S hin2 x h0, HSN.out x h0 h1, cycK_out HIN.out, orb_eq HD.out]
       simp [orbK]
      have HMARK := hid hmarks
      clear hat hmem hin2 hml hsuc hmk hol hnx hX hmarks x0 x1
      obtain ⟨al, cl, rfl, _⟩ := hSq.slice 0 rfl
      have hxd : itP p j m = j := HD.out.back
      have HXD := hid hxd; clear hxd
      have hjm : (j : Int) < (markL S (orbK p j m)).length := by rw [HML.out]; exact hj1
      rw [HXD.out] at HAT ⊢
      have hop : 0 < (orbK p j m).length := by rw [HOL.out]; exact hd0
      go_wp2_with (first | ((with_reducible refine wpList_idxN _ false E_bools F_bool cBool1 (by with_unfolding_all rfl) (by with_unfolding_all rfl) (hRB) (HML.out) (by first | omega | (simp; done)) (by first | omega | (simp; done)) (fun _ => by with_unfolding_all rfl) (fun _ => ?_)); rw [HAT.out]) | ((with_reducible refine wpList_pushL (y := ((al, (orbK p j m).length, cl) : SlH)) 1 E_sls (by with_unfolding_all rfl) (by with_unfolding_all rfl) (hSq) (by with_unfolding_all rfl) cSlO ⟨rfl, rfl⟩ (by first | with_unfolding_all rfl | simp) (by with_unfolding_all rfl) (by first | omega | (simp; omega)) (by first | omega | (simp; omega)) ?_); intro v4 w4 hP))
      refine ⟨⟨j + 1, markL S (orbK p j m), qs ++ [((al, (orbK p j m).length, cl), orbK p j m)], by omega, by go_num, HML.out, HMARK.out, ?_, ?_⟩, by simp [intOf]; omega⟩
      ·rw [List.map_append, HQ.out, cycK_out HIN.out, orb_eq HD.out]; rfl
      ·refine hP.perm ?_
       rw [List.map_append, List.map_append]
       exact List.perm_append_comm (l₁ := [_])
  ·have : j = p.length := by omega
   subst this
   clear hqlen
   go_wp2_with fail
   go_ret
   refine ⟨_, qs, rfl, HQ.out, ?_⟩
   exact (SL.comm (K := [_]) (L := qs.map inP) (SL.pickA (K := [_, _]) (M := qs.map inP) hSL [0] (by decide) (by simp) [_] rfl)).comm
end Go.Proofs.YtbchpkmcpplidaaGreatDoor

namespace Go.Proofs.YtbchpkmcpplidaaGreatDoor
open Go.RowKit
set_option maxHeartbeats 2000000
set_option maxRecDepth 100000

theorem rReciprocal_any (x : Nat) (w : World) (hx : x < 1000000000) (h0 : 0 < x) :
  Calls Tryz.prog 124 #[.string (itoaB x)] w fun r w' => r = .returned (.string (textQ 1 x)) ∧ Below w.heap.size w w' := by
 have CP := fun w => rparts_any x w hx
 have CF := fun a b c d w hS hT => rfraction_any 1 x a b c d w (by decide) hx (by decide) h0 hS hT
 rw [Nat.gcd_one_left, Nat.div_one, Nat.div_one] at CF
 have HP := hid CP; have HF := hid CF
 clear CP CF
 go_enter Tryz.func124, Tryz.ntmps124
 go_wp2_with fail
 refine (HP.out w).mono ?_
 rintro e w1 ⟨a, c, b, d, rfl, h1, h2, b1⟩
 have hS0 := ((SL.nil w1).box (.cells #[.bool false, .slice none 0 0] 144)).box (.cells #[.bool false, .slice none 0 0] 144)
 simp only [World.size_alloc] at hS0
 go_wp2_with (first | ((with_reducible refine wpList_stoR (us := #[.bool false, .slice a (wD x).length c]) 1 (by with_unfolding_all rfl) (by with_unfolding_all rfl) (hS0) (by with_unfolding_all rfl) (by kernel_rfl) (by with_unfolding_all rfl) (by with_unfolding_all rfl) ?_); intro w3 hS3) | ((with_reducible refine wpList_stoR (us := #[.bool false, .slice b (wD 1).length d]) 0 (by with_unfolding_all rfl) (by with_unfolding_all rfl) (hS3) (by with_unfolding_all rfl) (by kernel_rfl) (by with_unfolding_all rfl) (by with_unfolding_all rfl) ?_); intro w4 hS4) | (with_reducible refine wpList_ldS (n := 2) (us := #[.bool false, .slice b (wD 1).length d]) A_integer (by kernel_rfl) (by with_unfolding_all rfl) (by with_unfolding_all rfl) (hS4.blk 0 rfl).1 (by with_unfolding_all rfl) (by with_unfolding_all rfl) ?_) | (with_reducible refine wpList_ldS (n := 2) (us := #[.bool false, .slice a (wD x).length c]) A_integer (by kernel_rfl) (by with_unfolding_all rfl) (by with_unfolding_all rfl) (hS4.blk 1 rfl).1 (by with_unfolding_all rfl) (by with_unfolding_all rfl) ?_))
 refine (HF.out b a d c w4 (h2.below hS4.b) (h1.below hS4.b)).mono ?_
 rintro e w5 ⟨rfl, b5⟩
 go_wp2_with fail
 go_ret
 exact ⟨rfl, bnext b1 (bnext hS4.b b5)⟩

theorem rgcdL_any (x y : Int) (w : World) (hx : 0 ≤ x) (hx2 : x ≤ 4611686018427387904) (hy : 0 ≤ y) (hy2 : y ≤ 4611686018427387904) :
  Calls Tryz.prog 150 #[.int .i64 x, .int .i64 y] w fun r w' => r = .returned (.int .i64 (Int.gcd x y)) ∧ Below w.heap.size w w' := by
 go_enter Tryz.func150, Tryz.ntmps150
 go_wp2
 go_loopw [0, 1] (fun p q wr => ∃ a b : Int, p = .int .i64 a ∧ q = .int .i64 b ∧ 0 ≤ a ∧ a ≤ 4611686018427387904 ∧ 0 ≤ b ∧ b ≤ 4611686018427387904 ∧ Int.gcd a b = Int.gcd x y ∧ Below w.heap.size w wr) (fun _ q _ => (intOf q).toNat)
 case atStart => exact ⟨x, y, rfl, rfl, hx, hx2, hy, hy2, rfl, Below.refl _ _⟩
 case round =>
  obtain ⟨a, b, rfl, rfl, ha, ha2, hb, hb2, hg, hbr⟩ := hrel
  have HG := hid hg; clear hg
  by_cases hlt : 0 < b
  ·have hm0 := Int.emod_nonneg a (by omega : b ≠ 0)
   have hm1 := Int.emod_lt_of_pos a hlt
   have hne : ¬ b = 0 := by omega
   have hwr : IntKind.i64.wrap (a.tmod b) = a % b := by rw [Int.tmod_eq_emod_of_nonneg ha]; exact IntWalk.i64_in _ (by omega)
   go_wp2_with fail
   refine wp_region_quiet_lit (by kernel_rfl) (by kernel_rfl) ?_
   repeat (first | fail | quiet_step (fail))
   refine wpQuiet_nil ?_
   intro w2 hb2
   replace hb2 := below_drewN hb2
   clear hwr
   go_wp2_with fail
   rw [Int.tmod_eq_emod_of_nonneg (b := b) ha]
   refine ⟨⟨b, a % b, rfl, rfl, by omega, by omega, by omega, by omega, ?_, bnext hbr hb2⟩, by simp [intOf]; omega⟩
   rw [← HG.out, gcd_step ha hb]
  ·have : b = 0 := by omega
   subst this
   have hfin : a = Int.gcd x y := by
    rw [← HG.out, Int.gcd_zero]; omega
   have HF := hid hfin; clear hfin
   go_wp2_with fail
   go_ret
   exact ⟨by rw [← HF.out]; rfl, hbr⟩

theorem rOf_any (x y : Nat) (w : World) (hx : x < 1000000000000000000) (hy : y < 1000000000000000000) (hy0 : 0 < y) :
  Calls Tryz.prog 119 #[.int .i64 x, .int .i64 y] w fun r w' => r = .returned (.string (textQ (x / Nat.gcd x y) (y / Nat.gcd x y))) ∧ Below w.heap.size w w' := by
 have CG := fun w => rgcdL_any x y w (by omega) (by omega) (by omega) (by omega)
 have eg : ((Int.gcd (x : Int) (y : Int) : Nat) : Int) = ((Nat.gcd x y : Nat) : Int) := rfl
 rw [eg] at CG
 have hg0 : 0 < Nat.gcd x y := Nat.gcd_pos_of_pos_right _ hy0
 have hgy : Nat.gcd x y ≤ y := Nat.gcd_le_right _ hy0
 have hq0 : 0 < y / Nat.gcd x y := Nat.div_pos hgy hg0
 obtain ⟨g, hg⟩ : ∃ g, g = Nat.gcd x y := ⟨_, rfl⟩
 rw [← hg] at CG hg0 hgy hq0 ⊢
 have hp1 : x / g ≤ x := Nat.div_le_self _ _
 have hq1 : y / g ≤ y := Nat.div_le_self _ _
 have tp : (x : Int).tdiv g = (x : Int) / g := Int.tdiv_eq_ediv_of_nonneg (by omega)
 have tq : (y : Int).tdiv g = (y : Int) / g := Int.tdiv_eq_ediv_of_nonneg (by omega)
 have ep : (x : Int) / g = ((x / g : Nat) : Int) := rfl
 have eq : (y : Int) / g = ((y / g : Nat) : Int) := rfl
 obtain ⟨p, hp⟩ : ∃ p, p = x / g := ⟨_, rfl⟩
 obtain ⟨q, hq⟩ : ∃ q, q = y / g := ⟨_, rfl⟩
 rw [← hp] at ep hp1 ⊢
 rw [← hq] at eq hq1 hq0 ⊢
 have ewp : IntKind.i64.wrap ((x : Int) / g) = (x : Int) / g := by rw [ep]; exact IntWalk.i64_in _ (by omega)
 have ewq : IntKind.i64.wrap ((y : Int) / g) = (y : Int) / g := by rw [eq]; exact IntWalk.i64_in _ (by omega)
 have CP := fun w => rdecimal_any p w (by omega)
 have CQ := fun w => rdecimal_any q w (by omega)
 have hzp : (itoaB (p : Int)).size ≤ 18 := by have := decD_len 17 p (by omega); rw [itoaB_bT, bT_size]; exact this
 have hzq : (itoaB (q : Int)).size ≤ 18 := by have := decD_len 17 q (by omega); rw [itoaB_bT, bT_size]; exact this
 have hm1 : max (x : Int) (-(x : Int)) = x := by omega
 have hm2 : max (p : Int) (-(p : Int)) = p := by omega
 have hn1 : ¬ (x : Int) < -x := by omega
 have hn2 : ¬ (p : Int) < -p := by omega
 have hgn : ¬ (g : Int) = 0 := by omega
 have hgn2 : ¬ g = 0 := by omega
 have HG := hid CG; have HP := hid CP; have HQ := hid CQ; have EP := hid ep; have EQ := hid eq
 clear CG CP CQ ep eq hp hq hg eg
 have he : (⟨#[]⟩ : ByteArray) ++ itoaB (p : Int) = itoaB (p : Int) := by rw [itoaB_bT, show (⟨#[]⟩ : ByteArray) = bT [] from rfl, bT_app]; rfl
 go_enter Tryz.func119, Tryz.ntmps119
 go_wp2_with fail
 refine (HG.out _).mono ?_
 rintro e w1 ⟨rfl, b1⟩
 go_wp2_with fail
 refine wp_region_quiet_lit (by kernel_rfl) (by kernel_rfl) ?_
 repeat (first  | quiet_step (fail))
 refine wpQuiet_nil ?_
 intro w2 b2
 replace b2 := below_drewN b2
 clear ewp ewq tp tq
 rw [EP.out, EQ.out]
 have t2 := bnext b1 b2
 go_wp2_with fail
 refine (HP.out _).mono ?_
 rintro e w' ⟨rfl, rfl⟩
 by_cases h1 : q = 1
 ·subst h1
  have HTQ := hid (textQ_one p)
  go_wp2_with fail
  go_ret
  exact ⟨by rw [HTQ.out]; first | rfl | (rw [← he]; rfl), t2⟩
 ·have h1' : (1 : Int) < q := by omega
  have ht : textQ p q = itoaB (p : Int) ++ ⟨#[47]⟩ ++ itoaB (q : Int) := by unfold textQ; rw [if_neg h1]
  have HTQ := hid ht; clear ht
  go_wp2_with fail
  refine (HQ.out _).mono ?_
  rintro e w' ⟨rfl, rfl⟩
  go_wp2_with fail
  go_ret
  exact ⟨by rw [HTQ.out]; first | rfl | (rw [← he]; rfl), t2⟩

theorem rMul_any (p q r s : Nat) (w : World) (hp : p < 1000000000) (hq : q < 1000000000) (hr : r < 1000000000) (hs : s < 1000000000) (hq0 : 0 < q) (hs0 : 0 < s) :
  Calls Tryz.prog 68 #[.string (textQ p q), .string (textQ r s)] w fun e w' => e = .returned (.string (textQ (p * r / Nat.gcd (p * r) (q * s)) (q * s / Nat.gcd (p * r) (q * s)))) ∧ Below w.heap.size w w' := by
 have h1 : p * r < 1000000000000000000 := by
  have := Nat.mul_le_mul (show p ≤ 999999999 by omega) (show r ≤ 999999999 by omega); omega
 have h2 : q * s < 1000000000000000000 := by
  have := Nat.mul_le_mul (show q ≤ 999999999 by omega) (show s ≤ 999999999 by omega); omega
 have h3 : 0 < q * s := Nat.mul_pos hq0 hs0
 have CA := fun w => rquick_any p q w hp hq
 have CB := fun w => rquick_any r s w hr hs
 have CO := fun w => rOf_any (p * r) (q * s) w h1 h2 h3
 have e1 : ((p * r : Nat) : Int) = (p : Int) * r := Int.natCast_mul _ _
 have e2 : ((q * s : Nat) : Int) = (q : Int) * s := Int.natCast_mul _ _
 rw [e1, e2] at CO
 have b1 : 0 ≤ (p : Int) * r ∧ (p : Int) * r < 1000000000000000000 := by rw [← e1]; omega
 have b2 : 0 ≤ (q : Int) * s ∧ (q : Int) * s < 1000000000000000000 := by rw [← e2]; omega
 have w1 : IntKind.i64.wrap ((p : Int) * r) = (p : Int) * r := IntWalk.i64_in _ (by omega)
 have w2 : IntKind.i64.wrap ((q : Int) * s) = (q : Int) * s := IntWalk.i64_in _ (by omega)
 have HA := hid CA; have HB := hid CB; have HO := hid CO
 clear CA CB CO e1 e2 b1 b2
 go_enter Tryz.func68, Tryz.ntmps68
 go_wp2_with fail
 refine (HA.out w).mono ?_
 rintro e w' ⟨rfl, rfl⟩
 go_wp2_with fail
 refine (HB.out w).mono ?_
 rintro e w' ⟨rfl, rfl⟩
 go_wp2_with fail
 refine (HO.out w).mono ?_
 rintro e w5 ⟨rfl, b5⟩
 go_wp2_with fail
 go_ret
 exact ⟨rfl, b5⟩
theorem rNum_any (p q : Nat) (w : World) (hp : p < 1000000000) (hq : q < 1000000000) :
  Calls Tryz.prog 69 #[.string (textQ p q)] w fun e w' => e = .returned (.string (itoaB p)) ∧ Below w.heap.size w w' := by
 obtain ⟨z1, z2⟩ := textQ_size hp hq
 have CS := fun w => rslash_any (textQ p q) (itoaB (p : Int)).size w (textQ_slash p q) (by omega)
 have hle := (textQ_slash p q).le
 have HN := hid (textQ_num p q)
 obtain ⟨k, hk⟩ : ∃ k, k = (itoaB (p : Int)).size := ⟨_, rfl⟩
 rw [← hk] at CS hle HN
 have HS := hid CS
 clear CS hk
 go_enter Tryz.func69, Tryz.ntmps69
 go_wp2_with fail
 refine (HS.out w).mono ?_
 rintro e w' ⟨rfl, rfl⟩
 go_wp2_with fail
 go_ret
 exact ⟨by rw [← HN.out]; rfl, Below.refl _ _⟩
theorem rDiv_any (p n : Nat) (w : World) (hp : p < 1000000000) (hn : n < 1000000000) (hn0 : 0 < n) :
  Calls Tryz.prog 70 #[.string (itoaB p), .string (itoaB n)] w fun e w' => e = .returned (.string (textQ (p / Nat.gcd p n) (n / Nat.gcd p n))) ∧ Below w.heap.size w w' := by
 have CR := fun w => rReciprocal_any n w hn hn0
 have CM := fun w => rMul_any p 1 1 n w hp (by omega) (by omega) hn (by omega) hn0
 rw [textQ_one, Nat.mul_one, Nat.one_mul] at CM
 have HR := hid CR; have HM := hid CM; clear CR CM
 go_enter Tryz.func70, Tryz.ntmps70
 go_wp2_with fail
 refine (HR.out w).mono ?_
 rintro e w1 ⟨rfl, b1⟩
 go_wp2_with fail
 refine (HM.out w1).mono ?_
 rintro e w2 ⟨rfl, b2⟩
 go_wp2_with fail
 go_ret
 exact ⟨rfl, bnext b1 b2⟩
end Go.Proofs.YtbchpkmcpplidaaGreatDoor

namespace Go.Proofs.YtbchpkmcpplidaaGreatDoor
open Go.RowKit
set_option maxHeartbeats 2000000
set_option maxRecDepth 100000

theorem rPeriod_any (a : Option Addr) (cap : Nat) (p : List Int) (w : World) (hS : Ints w a cap p) (hp : IsP p) (h64 : p.length ≤ 64) :
  Calls Tryz.prog 19 #[.slice a p.length cap] w fun r w' => r = .returned (.string (itoaB (periodN p))) ∧ Below w.heap.size w w' := by
 have CY := fun w hS => rCycles_any a cap p w hS hp (by omega)
 have CF := fun n w hn => rFromInt_any n w hn
 have CD := fun p n w hp hn hn0 => rDiv_any p n w hp hn hn0
 have CN := fun p q w hp hq => rNum_any p q w hp hq
 have CM := fun p r w hp hr => rMul_any p 1 r 1 w hp (by decide) hr (by decide) (by decide) (by decide)
 have HY := hid CY; have HF := hid CF; have HD := hid CD; have HN := hid CN; have HM := hid CM
 clear CY CF CD CN CM
 have hcap := hS.le
 have hm0 := hS.max
 have h1B : itoaB (1 : Int) = ⟨#[49]⟩ := by
  have := itoaB_nat 1
  rw [decD_small (by decide)] at this
  exact this
 go_enter Tryz.func19, Tryz.ntmps19
 go_wp2_with fail
 refine (HY.out _ hS).mono ?_
 rintro e w3 ⟨v, qs, rfl, hqs, hS0⟩
 obtain ⟨av, cv, rfl, _⟩ := hS0.slice 0 rfl
 have hlq : lensQ qs = (cycK p p.length).map List.length := by rw [← hqs]; simp [lensQ]
 have hsum : (lensQ qs).sum ≤ 64 := by rw [hlq]; exact Nat.le_trans (cycK_sum hp (Nat.le_refl _)) h64
 have hpos : ∀ n ∈ lensQ qs, 0 < n := by
  rw [hlq]; intro n hn
  obtain ⟨l, hl, rfl⟩ := List.mem_map.1 hn
  exact cycK_pos hp (Nat.le_refl _) l hl
 have hper : periodN p = perF (lensQ qs) := by rw [hlq]; rfl
 have hnq : qs.length ≤ 64 := by
  have h1 := cycK_len p p.length
  have h2 : (lensQ qs).length = (cycK p p.length).length := by rw [hlq]; simp
  rw [lens_len] at h2; omega
 have HPER := hid hper; have HPOS := hid hpos; have HQL : Hid ((qs.map Prod.fst).length = qs.length) := hid (by simp)
 have HQL2 : Hid (qs.length = (qs.map Prod.fst).length) := hid (by simp)
 have H1B := hid h1B
 clear hper hpos hlq hqs h1B
 rw [HQL.out]
 go_wp2_with fail
 go_loopw [3, 5, 6] (fun ov i _ wr => ∃ k : Nat, k ≤ qs.length ∧ i = .int .i64 k ∧ ov = .string (itoaB ((perF ((lensQ qs).take k) : Nat) : Int)) ∧
   SL w.heap.size w wr (pOwn cSl 1 22 (.slice av qs.length cv) (qs.map Prod.fst) :: qs.map inP)) (fun _ i _ _ => qs.length - (intOf i).toNat)
 case atStart => exact ⟨0, by omega, rfl, by rw [show perF ((lensQ qs).take 0) = 1 from rfl, show (((1 : Nat) : Int)) = 1 from rfl, H1B.out], by rw [← HQL.out]; rw [HQL.out]; simpa using hS0⟩
 case round =>
  clear hS0
  obtain ⟨k, hk, rfl, rfl, hSr⟩ := hrel
  have hRq := hSr.rd 0 rfl
  by_cases hlt : k < qs.length
  ·have hlk : k < (lensQ qs).length := by rw [lens_len]; exact hlt
   have hpt := perF_take hlk
   obtain ⟨P0, hP0⟩ : ∃ P0, P0 = perF ((lensQ qs).take k) := ⟨_, rfl⟩
   obtain ⟨n, hn⟩ : ∃ n, n = (lensQ qs)[k] := ⟨_, rfl⟩
   have hn0 : 0 < n := by rw [hn]; exact HPOS.out _ (List.getElem_mem hlk)
   have hn1 : n ≤ 64 := by
    have h1 := sum_take_le (lensQ qs) (k + 1)
    rw [List.take_succ_eq_append_getElem hlk, List.sum_append] at h1
    rw [hn]; simp at h1; omega
   have hp1 : P0 < 100000000 := by rw [hP0]; exact perF_small _ (fun m hm => HPOS.out m (List.mem_of_mem_take hm)) (Nat.le_trans (sum_take_le _ _) hsum)
   have hp2 : perF ((lensQ qs).take (k + 1)) < 100000000 := perF_small _ (fun m hm => HPOS.out m (List.mem_of_mem_take hm)) (Nat.le_trans (sum_take_le _ _) hsum)
   have hd1 : P0 / Nat.gcd P0 n ≤ P0 := Nat.div_le_self _ _
   have hd2 : n / Nat.gcd P0 n ≤ n := Nat.div_le_self _ _
   have hM := fun w => HM.out (P0 / Nat.gcd P0 n) n w (by omega) (by omega)
   rw [Nat.mul_one, Nat.gcd_one_right, Nat.div_one, Nat.div_one, textQ_one, textQ_one, textQ_one] at hM
   have hF := fun w => HF.out n w (by omega)
   have hD := fun w => HD.out P0 n w (by omega) (by omega) hn0
   have hN := fun w => HN.out (P0 / Nat.gcd P0 n) (n / Nat.gcd P0 n) w (by omega) (by omega)
   rw [hpt, ← hn, ← hP0] at hp2
   have hlc : P0 / Nat.gcd P0 n * n = lcmF P0 n := rfl
   rw [hlc] at hM
   obtain ⟨T, hT⟩ : ∃ T, T = textQ (P0 / Nat.gcd P0 n) (n / Nat.gcd P0 n) := ⟨_, rfl⟩
   rw [← hT] at hD hN
   obtain ⟨U, hU⟩ : ∃ U, U = itoaB ((P0 / Nat.gcd P0 n : Nat) : Int) := ⟨_, rfl⟩
   rw [← hU] at hN hM
   rw [← hn, ← hP0] at hpt
   have HPT := hid hpt; have HMM := hid hM; have HFF := hid hF; have HDD := hid hD; have HNN := hid hN
   have hel : (atD (none, 0, 0) (qs.map Prod.fst) k).2.1 = n := by
    have hw := (hSr.own (k + 1) (c := cInt) (sz := 1) (e := 3) (v := cSl qs[k].1) (l := qs[k].2) (by simp [inP, hlt]))
    obtain ⟨a', cap', e1, _⟩ := hw.reps
    have e2 : qs[k].1.2.1 = qs[k].2.length := by have := congrArg (fun v : Value => match v with | .slice _ n _ => n | _ => 0) e1; simpa using this
    rw [hn]
    simp [atD, hlt, e2, lensQ]
   have HEL := hid hel
   rw [← hP0]
   clear hpt hM hF hD hN hel hT hU hlc hn hP0 hlk hp2 hd1 hd2
   go_wp2_with ((with_reducible refine wpList_idxN _ ((none, 0, 0) : SlH) E_sls F_sl cSl1 (by with_unfolding_all rfl) (by with_unfolding_all rfl) (hRq) (HQL.out) (by first | omega | (simp; done)) (by first | omega | (simp; done)) (fun _ => by with_unfolding_all rfl) (fun _ => ?_)); (try simp only [cSl]); rw [HEL.out])
   refine (HFF.out _).mono ?_
   rintro e w4 ⟨rfl, b4⟩
   go_wp2_with fail
   refine (HDD.out _).mono ?_
   rintro e w5 ⟨rfl, b5⟩
   go_wp2_with fail
   refine (HNN.out _).mono ?_
   rintro e w6 ⟨rfl, b6⟩
   go_wp2_with fail
   refine (HMM.out _).mono ?_
   rintro e w7 ⟨rfl, b7⟩
   go_wp2_with fail
   exact ⟨⟨k + 1, by omega, by go_num, by rw [HPT.out], (((hSr.mono b4).mono b5).mono b6).mono b7⟩, by simp [intOf]; omega⟩
  ·have hkq : k = qs.length := by omega
   have hlk : (lensQ qs).take k = lensQ qs := List.take_of_length_le (by rw [lens_len]; omega)
   rw [hlk, ← HPER.out]
   clear hlk
   have HKQ := hid hkq; clear hkq
   go_wp2_with fail
   go_ret
   exact ⟨rfl, hSr.b⟩
end Go.Proofs.YtbchpkmcpplidaaGreatDoor

namespace Go.Proofs.YtbchpkmcpplidaaGreatDoor
open Go.RowKit
set_option maxHeartbeats 2000000
set_option maxRecDepth 100000

theorem decD_first {u : Nat} (h : 0 < u) : ∃ b r, Lib.decDigits u = b :: r ∧ 49 ≤ b.toNat ∧ b.toNat ≤ 57 := by
 induction u using Nat.strongRecOn with
 | _ u ih =>
  by_cases h10 : u < 10
  ·rw [decD_small h10]
   refine ⟨_, [], rfl, ?_⟩
   rw [digB h10]; omega
  ·rw [decD_big h10]
   obtain ⟨b, r, e, h1, h2⟩ := ih (u / 10) (by omega) (by omega)
   rw [e]
   exact ⟨b, r ++ [UInt8.ofNat (48 + u % 10)], rfl, h1, h2⟩
end Go.Proofs.YtbchpkmcpplidaaGreatDoor

namespace Go.Proofs
open Go.Shelf
def Tryz.laysM171_ren : Go.Shelf.Ren := ⟨fun | 171 => 98 | 243 => 134 | 246 => 160 | 283 => 186 | 284 => 187 | 285 => 188 | 286 => 189 | 129 => 209 | 317 => 208 | 318 => 210 | 319 => 211 | 320 => 212 | 337 => 233 | 338 => 234 | n => n, fun | 3 => 3 | 9 => 9 | 2 => 2 | 4 => 4 | 171 => 216 | 0 => 0 | 53 => 201 | 37 => 165 | 5 => 5 | 173 => 219 | 212 => 240 | 51 => 241 | 20 => 20 | 213 => 242 | 46 => 232 | 232 => 269 | 233 => 270 | n => n, fun | 17 => 1 | 18 => 8 | 19 => 9 | n => n⟩
theorem Tryz.laysM171 : Go.Proofs.LaysM.n171 Tryz.prog Tryz.laysM171_ren := {
 mixed := by kernel_rfl
 f129 := Tryz.func209.trans (congrArg some (by kernel_rfl))
 f171 := Tryz.func98.trans (congrArg some (by kernel_rfl))
 f243 := Tryz.func134.trans (congrArg some (by kernel_rfl))
 f246 := Tryz.func160.trans (congrArg some (by kernel_rfl))
 f283 := Tryz.func186.trans (congrArg some (by kernel_rfl))
 f284 := Tryz.func187.trans (congrArg some (by kernel_rfl))
 f285 := Tryz.func188.trans (congrArg some (by kernel_rfl))
 f286 := Tryz.func189.trans (congrArg some (by kernel_rfl))
 f317 := Tryz.func208.trans (congrArg some (by kernel_rfl))
 f318 := Tryz.func210.trans (congrArg some (by kernel_rfl))
 f319 := Tryz.func211.trans (congrArg some (by kernel_rfl))
 f320 := Tryz.func212.trans (congrArg some (by kernel_rfl))
 f337 := Tryz.func233.trans (congrArg some (by kernel_rfl))
 f338 := Tryz.func234.trans (congrArg some (by kernel_rfl))
 t0 := Tryz.underlying0
 a0 := Tryz.isAgg0
 z0 := Tryz.sizeOf0
 v0 := Tryz.zeroValue0
 t2 := Tryz.underlying2
 a2 := Tryz.isAgg2
 z2 := Tryz.sizeOf2
 v2 := Tryz.zeroValue2
 t3 := Tryz.underlying3
 a3 := Tryz.isAgg3
 z3 := Tryz.sizeOf3
 v3 := Tryz.zeroValue3
 t4 := Tryz.underlying4
 a4 := Tryz.isAgg4
 z4 := Tryz.sizeOf4
 v4 := Tryz.zeroValue4
 t5 := Tryz.underlying5
 a5 := Tryz.isAgg5
 z5 := Tryz.sizeOf5
 v5 := Tryz.zeroValue5
 t9 := Tryz.underlying9
 a9 := Tryz.isAgg9
 z9 := Tryz.sizeOf9
 v9 := Tryz.zeroValue9
 t20 := Tryz.underlying20
 a20 := Tryz.isAgg20
 z20 := Tryz.sizeOf20
 v20 := Tryz.zeroValue20
 t37 := Tryz.underlying165
 a37 := Tryz.isAgg165
 z37 := Tryz.sizeOf165
 v37 := Tryz.zeroValue165
 t46 := Tryz.underlying232
 a46 := Tryz.isAgg232
 z46 := Tryz.sizeOf232
 v46 := Tryz.zeroValue232
 t51 := Tryz.underlying241
 a51 := Tryz.isAgg241
 z51 := Tryz.sizeOf241
 v51 := Tryz.zeroValue241
 t53 := Tryz.underlying201
 a53 := Tryz.isAgg201
 z53 := Tryz.sizeOf201
 v53 := Tryz.zeroValue201
 t171 := Tryz.underlying216
 a171 := Tryz.isAgg216
 z171 := Tryz.sizeOf216
 v171 := Tryz.zeroValue216
 t173 := Tryz.underlying219
 a173 := Tryz.isAgg219
 z173 := Tryz.sizeOf219
 v173 := Tryz.zeroValue219
 t212 := Tryz.underlying240
 a212 := Tryz.isAgg240
 z212 := Tryz.sizeOf240
 v212 := Tryz.zeroValue240
 t213 := Tryz.underlying242
 a213 := Tryz.isAgg242
 z213 := Tryz.sizeOf242
 t232 := Tryz.underlying269
 a232 := Tryz.isAgg269
 z232 := Tryz.sizeOf269
 v232 := Tryz.zeroValue269
 t233 := Tryz.underlying270
 a233 := Tryz.isAgg270
 z233 := Tryz.sizeOf270
 v233 := Tryz.zeroValue270
 g17 := by kernel_rfl
 g18 := by kernel_rfl
 g19 := by kernel_rfl
 i0 := by kernel_rfl
 i2 := by kernel_rfl
 i3 := by kernel_rfl
 i4 := by kernel_rfl
 i5 := by kernel_rfl
 i9 := by kernel_rfl
 i20 := by kernel_rfl
 i37 := by kernel_rfl
 i46 := by kernel_rfl
 i51 := by kernel_rfl
 i53 := by kernel_rfl
 i171 := by kernel_rfl
 i173 := by kernel_rfl
 i212 := by kernel_rfl
 i232 := by kernel_rfl
 i233 := by kernel_rfl
 m17 := by kernel_rfl
 m18 := by kernel_rfl
 m19 := by kernel_rfl }
open Go.RowKit Go.Sort Go.Lib in
/-- strconv.Itoa: "Itoa is equivalent to FormatInt(int64(i), 10).": i's DECIMAL NUMERAL ('Lib.itoa': a '-' where i is negative, then the digits), FOR EVERY int. The world behind the call: the world before it, new blocks behind the heap (the library's 'var a [24]byte'), draws. (LAID: no walk: one application.) -/
theorem Tryz.strconv_Itoa (n : Int) (h0 : -9223372036854775808 ≤ n) (h1 : n ≤ 9223372036854775807) (w : World) (htab : Lib.TabIs Tryz.prog w "internal/strconv.uint64pow10" .u64 Lib.pow10Tab) :
  Calls Tryz.prog 98 #[.int .i64 n] w fun e w' => e = .returned (.string ⟨(Lib.itoa n).toArray⟩) ∧ ∃ k os, w' = grow (w.drewN k) os := Any.strconv_Itoa Tryz.laysM171 n h0 h1 w htab

end Go.Proofs

namespace Go.Proofs
open Go.Shelf
def Tryz.laysC172_ren : Go.Shelf.Ren := ⟨fun | 172 => 136 | 244 => 164 | 245 => 165 | 247 => 194 | 279 => 195 | 280 => 196 | 281 => 197 | 282 => 198 | 287 => 218 | 316 => 219 | 171 => 98 | 205 => 220 | 321 => 237 | 322 => 238 | 243 => 134 | 246 => 160 | 283 => 186 | 284 => 187 | 285 => 188 | 286 => 189 | 129 => 209 | 317 => 208 | 318 => 210 | 319 => 211 | 320 => 212 | 337 => 233 | 338 => 234 | n => n, fun | 9 => 9 | 3 => 3 | 75 => 170 | 76 => 171 | 4 => 4 | 5 => 5 | 167 => 224 | 37 => 165 | 0 => 0 | 85 => 225 | 2 => 2 | 168 => 227 | 53 => 201 | 175 => 244 | 46 => 232 | 210 => 248 | 127 => 193 | 145 => 267 | 143 => 265 | 21 => 21 | 171 => 216 | 173 => 219 | 212 => 240 | 51 => 241 | 20 => 20 | 213 => 242 | 232 => 269 | 233 => 270 | 80 => 173 | n => n, fun | 15 => 2 | 16 => 3 | 17 => 1 | 18 => 8 | 19 => 9 | n => n⟩
theorem Tryz.laysC172 : Go.Proofs.LaysC.n172 Tryz.prog Tryz.laysC172_ren := {
 mixed := by kernel_rfl
 f129 := Tryz.func209.trans (congrArg some (by kernel_rfl))
 f171 := Tryz.func98.trans (congrArg some (by kernel_rfl))
 f172 := Tryz.func136.trans (congrArg some (by kernel_rfl))
 f205 := Tryz.func220.trans (congrArg some (by kernel_rfl))
 f243 := Tryz.func134.trans (congrArg some (by kernel_rfl))
 f244 := Tryz.func164.trans (congrArg some (by kernel_rfl))
 f245 := Tryz.func165.trans (congrArg some (by kernel_rfl))
 f246 := Tryz.func160.trans (congrArg some (by kernel_rfl))
 f247 := Tryz.func194.trans (congrArg some (by kernel_rfl))
 f279 := Tryz.func195.trans (congrArg some (by kernel_rfl))
 f280 := Tryz.func196.trans (congrArg some (by kernel_rfl))
 f281 := Tryz.func197.trans (congrArg some (by kernel_rfl))
 f282 := Tryz.func198.trans (congrArg some (by kernel_rfl))
 f283 := Tryz.func186.trans (congrArg some (by kernel_rfl))
 f284 := Tryz.func187.trans (congrArg some (by kernel_rfl))
 f285 := Tryz.func188.trans (congrArg some (by kernel_rfl))
 f286 := Tryz.func189.trans (congrArg some (by kernel_rfl))
 f287 := Tryz.func218.trans (congrArg some (by kernel_rfl))
 f316 := Tryz.func219.trans (congrArg some (by kernel_rfl))
 f317 := Tryz.func208.trans (congrArg some (by kernel_rfl))
 f318 := Tryz.func210.trans (congrArg some (by kernel_rfl))
 f319 := Tryz.func211.trans (congrArg some (by kernel_rfl))
 f320 := Tryz.func212.trans (congrArg some (by kernel_rfl))
 f321 := Tryz.func237.trans (congrArg some (by kernel_rfl))
 f322 := Tryz.func238.trans (congrArg some (by kernel_rfl))
 f337 := Tryz.func233.trans (congrArg some (by kernel_rfl))
 f338 := Tryz.func234.trans (congrArg some (by kernel_rfl))
 t0 := Tryz.underlying0
 a0 := Tryz.isAgg0
 z0 := Tryz.sizeOf0
 v0 := Tryz.zeroValue0
 t2 := Tryz.underlying2
 a2 := Tryz.isAgg2
 z2 := Tryz.sizeOf2
 v2 := Tryz.zeroValue2
 t3 := Tryz.underlying3
 a3 := Tryz.isAgg3
 z3 := Tryz.sizeOf3
 v3 := Tryz.zeroValue3
 t4 := Tryz.underlying4
 a4 := Tryz.isAgg4
 z4 := Tryz.sizeOf4
 v4 := Tryz.zeroValue4
 t5 := Tryz.underlying5
 a5 := Tryz.isAgg5
 z5 := Tryz.sizeOf5
 v5 := Tryz.zeroValue5
 t9 := Tryz.underlying9
 a9 := Tryz.isAgg9
 z9 := Tryz.sizeOf9
 v9 := Tryz.zeroValue9
 t20 := Tryz.underlying20
 a20 := Tryz.isAgg20
 z20 := Tryz.sizeOf20
 v20 := Tryz.zeroValue20
 t21 := Tryz.underlying21
 a21 := Tryz.isAgg21
 z21 := Tryz.sizeOf21
 v21 := Tryz.zeroValue21
 t37 := Tryz.underlying165
 a37 := Tryz.isAgg165
 z37 := Tryz.sizeOf165
 v37 := Tryz.zeroValue165
 t46 := Tryz.underlying232
 a46 := Tryz.isAgg232
 z46 := Tryz.sizeOf232
 v46 := Tryz.zeroValue232
 t51 := Tryz.underlying241
 a51 := Tryz.isAgg241
 z51 := Tryz.sizeOf241
 v51 := Tryz.zeroValue241
 t53 := Tryz.underlying201
 a53 := Tryz.isAgg201
 z53 := Tryz.sizeOf201
 v53 := Tryz.zeroValue201
 t75 := Tryz.underlying170
 a75 := Tryz.isAgg170
 z75 := Tryz.sizeOf170
 v75 := Tryz.zeroValue170
 t76 := Tryz.underlying171
 a76 := Tryz.isAgg171
 z76 := Tryz.sizeOf171
 v76 := Tryz.zeroValue171
 t85 := Tryz.underlying225
 a85 := Tryz.isAgg225
 z85 := Tryz.sizeOf225
 v85 := Tryz.zeroValue225
 t127 := Tryz.underlying193
 a127 := Tryz.isAgg193
 z127 := Tryz.sizeOf193
 v127 := Tryz.zeroValue193
 t143 := Tryz.underlying265
 a143 := Tryz.isAgg265
 z143 := Tryz.sizeOf265
 v143 := Tryz.zeroValue265
 t145 := Tryz.underlying267
 a145 := Tryz.isAgg267
 z145 := Tryz.sizeOf267
 v145 := Tryz.zeroValue267
 t167 := Tryz.underlying224
 a167 := Tryz.isAgg224
 z167 := Tryz.sizeOf224
 v167 := Tryz.zeroValue224
 t168 := Tryz.underlying227
 a168 := Tryz.isAgg227
 z168 := Tryz.sizeOf227
 v168 := Tryz.zeroValue227
 t171 := Tryz.underlying216
 a171 := Tryz.isAgg216
 z171 := Tryz.sizeOf216
 v171 := Tryz.zeroValue216
 t173 := Tryz.underlying219
 a173 := Tryz.isAgg219
 z173 := Tryz.sizeOf219
 v173 := Tryz.zeroValue219
 t175 := Tryz.underlying244
 a175 := Tryz.isAgg244
 z175 := Tryz.sizeOf244
 v175 := Tryz.zeroValue244
 t210 := Tryz.underlying248
 a210 := Tryz.isAgg248
 z210 := Tryz.sizeOf248
 v210 := Tryz.zeroValue248
 t212 := Tryz.underlying240
 a212 := Tryz.isAgg240
 z212 := Tryz.sizeOf240
 v212 := Tryz.zeroValue240
 t213 := Tryz.underlying242
 a213 := Tryz.isAgg242
 z213 := Tryz.sizeOf242
 t232 := Tryz.underlying269
 a232 := Tryz.isAgg269
 z232 := Tryz.sizeOf269
 v232 := Tryz.zeroValue269
 t233 := Tryz.underlying270
 a233 := Tryz.isAgg270
 z233 := Tryz.sizeOf270
 v233 := Tryz.zeroValue270
 g15 := by kernel_rfl
 g16 := by kernel_rfl
 g17 := by kernel_rfl
 g18 := by kernel_rfl
 g19 := by kernel_rfl
 t80 := Tryz.underlying173
 a80 := Tryz.isAgg173
 z80 := Tryz.sizeOf173
 v80 := Tryz.zeroValue173
 i0 := by kernel_rfl
 i2 := by kernel_rfl
 i3 := by kernel_rfl
 i4 := by kernel_rfl
 i5 := by kernel_rfl
 i9 := by kernel_rfl
 i20 := by kernel_rfl
 i21 := by kernel_rfl
 i37 := by kernel_rfl
 i46 := by kernel_rfl
 i51 := by kernel_rfl
 i53 := by kernel_rfl
 i75 := by kernel_rfl
 i76 := by kernel_rfl
 i80 := by kernel_rfl
 i85 := by kernel_rfl
 i127 := by kernel_rfl
 i143 := by kernel_rfl
 i145 := by kernel_rfl
 i167 := by kernel_rfl
 i168 := by kernel_rfl
 i171 := by kernel_rfl
 i173 := by kernel_rfl
 i175 := by kernel_rfl
 i210 := by kernel_rfl
 i212 := by kernel_rfl
 i232 := by kernel_rfl
 i233 := by kernel_rfl
 m15 := by kernel_rfl
 m16 := by kernel_rfl
 m17 := by kernel_rfl
 m18 := by kernel_rfl
 m19 := by kernel_rfl
 c0 := by kernel_rfl
 c2 := by kernel_rfl
 c3 := by kernel_rfl
 c4 := by kernel_rfl
 c5 := by kernel_rfl
 c9 := by kernel_rfl
 c20 := by kernel_rfl
 c21 := by kernel_rfl
 c37 := by kernel_rfl
 c46 := by kernel_rfl
 c51 := by kernel_rfl
 c53 := by kernel_rfl
 c75 := by kernel_rfl
 c76 := by kernel_rfl
 c80 := by kernel_rfl
 c85 := by kernel_rfl
 c127 := by kernel_rfl
 c143 := by kernel_rfl
 c145 := by kernel_rfl
 c167 := by kernel_rfl
 c168 := by kernel_rfl
 c171 := by kernel_rfl
 c173 := by kernel_rfl
 c175 := by kernel_rfl
 c210 := by kernel_rfl
 c212 := by kernel_rfl
 c213 := by kernel_rfl
 c232 := by kernel_rfl
 c233 := by kernel_rfl }
open Go.RowKit in
/-- strconv.Atoi, AT EVERY STRING THAT SPELLS AN int ('Lib.atoiAll .. = .ok v'; of whatever length: leading zeros count): v, AND NO ERROR. The world: as it was, or with the one new row that '[]byte(..)' lays. (LAID: no walk: one application.) -/
theorem Tryz.strconv_Atoi_ok (s : ByteArray) (hmax : s.size ≤ 9223372036854775806) (v : Int) (h : Lib.atoiAll s.data.toList = .ok v) (w : World) :
  Calls Tryz.prog 136 #[.string s] w fun e w' => e = .returned (.tuple #[.int .i64 v, .nilIface]) ∧ (w' = w ∨ ∃ t, w' = Lib.bytesWorld w 5 t) := Any.strconv_Atoi_ok Tryz.laysC172 s hmax v h w
open Go.RowKit in
theorem Tryz.strconv_Atoi_syntax_var (s : ByteArray) (hlim : s.size ≤ 281474976710656) (h : Lib.atoiAll s.data.toList = Lib.atoiAll []) (tp : TypeId) (p : Value) (w : World) (hvar : w.var? Tryz.prog "strconv.ErrSyntax" = some #[.iface tp p]) :
  Calls Tryz.prog 136 #[.string s] w fun e w' => ∃ N, e = .returned (.tuple #[.int .i64 0, .iface 227 (.pointer (some ⟨N, 0, none⟩))]) ∧ w.heap.size ≤ N ∧ w'.heap[N]? = some (.cells #[.string ⟨#[65, 116, 111, 105]⟩, .string s, .iface tp p] 248 (0, 0)) ∧ Below w.heap.size w w' := Any.strconv_Atoi_syntax_var Tryz.laysC172 s hlim h tp p w hvar
open Go.RowKit in
theorem Tryz.strconv_Atoi_range_var (s : ByteArray) (hlim : s.size ≤ 281474976710656) (h : Lib.atoiAll s.data.toList = .range) (tp : TypeId) (p : Value) (w : World) (hvar : w.var? Tryz.prog "strconv.ErrRange" = some #[.iface tp p]) :
  Calls Tryz.prog 136 #[.string s] w fun e w' => ∃ N, e = .returned (.tuple #[.int .i64 (Lib.atoiSat s.data.toList), .iface 227 (.pointer (some ⟨N, 0, none⟩))]) ∧ w.heap.size ≤ N ∧ w'.heap[N]? = some (.cells #[.string ⟨#[65, 116, 111, 105]⟩, .string s, .iface tp p] 248 (0, 0)) ∧ Below w.heap.size w w' := Any.strconv_Atoi_range_var Tryz.laysC172 s hlim h tp p w hvar
def Tryz.lays146_ren : Go.Shelf.Ren := ⟨fun | 146 => 99 | 221 => 135 | 268 => 161 | 138 => 162 | 143 => 163 | 195 => 190 | 197 => 191 | 218 => 192 | 219 => 193 | 260 => 213 | 217 => 214 | 225 => 215 | 224 => 216 | 267 => 217 | 266 => 235 | 314 => 236 | n => n, fun | 9 => 9 | 31 => 124 | 3 => 3 | 4 => 4 | 0 => 0 | 105 => 221 | 21 => 21 | 5 => 5 | 46 => 232 | 119 => 257 | 139 => 260 | 138 => 259 | 146 => 261 | 51 => 241 | n => n, fun | 1 => 0 | 3 => 4 | 4 => 5 | n => n⟩
theorem Tryz.lays146 : Go.Proofs.Lays.n146 Tryz.prog Tryz.lays146_ren := {
 mixed := by kernel_rfl
 f138 := Tryz.func162.trans (congrArg some (by kernel_rfl))
 f143 := Tryz.func163.trans (congrArg some (by kernel_rfl))
 f146 := Tryz.func99.trans (congrArg some (by kernel_rfl))
 f195 := Tryz.func190.trans (congrArg some (by kernel_rfl))
 f197 := Tryz.func191.trans (congrArg some (by kernel_rfl))
 f217 := Tryz.func214.trans (congrArg some (by kernel_rfl))
 f218 := Tryz.func192.trans (congrArg some (by kernel_rfl))
 f219 := Tryz.func193.trans (congrArg some (by kernel_rfl))
 f221 := Tryz.func135.trans (congrArg some (by kernel_rfl))
 f224 := Tryz.func216.trans (congrArg some (by kernel_rfl))
 f225 := Tryz.func215.trans (congrArg some (by kernel_rfl))
 f260 := Tryz.func213.trans (congrArg some (by kernel_rfl))
 f266 := Tryz.func235.trans (congrArg some (by kernel_rfl))
 f267 := Tryz.func217.trans (congrArg some (by kernel_rfl))
 f268 := Tryz.func161.trans (congrArg some (by kernel_rfl))
 f314 := Tryz.func236.trans (congrArg some (by kernel_rfl))
 t0 := Tryz.underlying0
 a0 := Tryz.isAgg0
 z0 := Tryz.sizeOf0
 v0 := Tryz.zeroValue0
 t3 := Tryz.underlying3
 a3 := Tryz.isAgg3
 z3 := Tryz.sizeOf3
 v3 := Tryz.zeroValue3
 t4 := Tryz.underlying4
 a4 := Tryz.isAgg4
 z4 := Tryz.sizeOf4
 v4 := Tryz.zeroValue4
 t5 := Tryz.underlying5
 a5 := Tryz.isAgg5
 z5 := Tryz.sizeOf5
 v5 := Tryz.zeroValue5
 t9 := Tryz.underlying9
 a9 := Tryz.isAgg9
 z9 := Tryz.sizeOf9
 v9 := Tryz.zeroValue9
 t21 := Tryz.underlying21
 a21 := Tryz.isAgg21
 z21 := Tryz.sizeOf21
 v21 := Tryz.zeroValue21
 t31 := Tryz.underlying124
 a31 := Tryz.isAgg124
 z31 := Tryz.sizeOf124
 v31 := Tryz.zeroValue124
 t46 := Tryz.underlying232
 a46 := Tryz.isAgg232
 z46 := Tryz.sizeOf232
 v46 := Tryz.zeroValue232
 t51 := Tryz.underlying241
 a51 := Tryz.isAgg241
 z51 := Tryz.sizeOf241
 v51 := Tryz.zeroValue241
 t105 := Tryz.underlying221
 a105 := Tryz.isAgg221
 z105 := Tryz.sizeOf221
 v105 := Tryz.zeroValue221
 t119 := Tryz.underlying257
 a119 := Tryz.isAgg257
 z119 := Tryz.sizeOf257
 t138 := Tryz.underlying259
 a138 := Tryz.isAgg259
 z138 := Tryz.sizeOf259
 v138 := Tryz.zeroValue259
 t139 := Tryz.underlying260
 a139 := Tryz.isAgg260
 z139 := Tryz.sizeOf260
 v139 := Tryz.zeroValue260
 t146 := Tryz.underlying261
 a146 := Tryz.isAgg261
 z146 := Tryz.sizeOf261
 v146 := Tryz.zeroValue261
 g1 := by kernel_rfl
 g3 := by kernel_rfl
 g4 := by kernel_rfl }
open Go.RowKit Go.Lib in
/-- strings.Split. (LAID: no walk: one application.) -/
theorem Tryz.strings_Split (s sep : ByteArray) (m : Int) (w : World) (hs : s.size < 4294967281) (hm : w.cell? ⟨0, 0, none⟩ = some (.int .i64 m)) (h1 : 1 ≤ sep.size) :
  Calls Tryz.prog 99 #[.string s, .string sep] w fun e w' =>
   e = .returned (.slice (some ⟨w.heap.size, 0, none⟩) (Lib.countB s sep + 1) (Lib.countB s sep + 1)) ∧ w' = w.alloc (.cells ((Lib.splitB sep 0 (Lib.countB s sep) s).map Value.string).toArray 9) := Any.strings_Split Tryz.lays146 (by kernel_rfl) s sep m w hs hm h1
def Tryz.laysM146_ren : Go.Shelf.Ren := ⟨fun | 146 => 99 | 221 => 135 | 268 => 161 | 138 => 162 | 143 => 163 | 195 => 190 | 197 => 191 | 218 => 192 | 219 => 193 | 260 => 213 | 217 => 214 | 225 => 215 | 224 => 216 | 267 => 217 | 266 => 235 | 314 => 236 | n => n, fun | 9 => 9 | 31 => 124 | 3 => 3 | 4 => 4 | 0 => 0 | 105 => 221 | 21 => 21 | 5 => 5 | 46 => 232 | 119 => 257 | 139 => 260 | 138 => 259 | 146 => 261 | 51 => 241 | n => n, fun | 1 => 0 | 3 => 4 | 4 => 5 | n => n⟩
theorem Tryz.laysM146 : Go.Proofs.LaysM.n146 Tryz.prog Tryz.laysM146_ren := {
 mixed := by kernel_rfl
 f138 := Tryz.func162.trans (congrArg some (by kernel_rfl))
 f143 := Tryz.func163.trans (congrArg some (by kernel_rfl))
 f146 := Tryz.func99.trans (congrArg some (by kernel_rfl))
 f195 := Tryz.func190.trans (congrArg some (by kernel_rfl))
 f197 := Tryz.func191.trans (congrArg some (by kernel_rfl))
 f217 := Tryz.func214.trans (congrArg some (by kernel_rfl))
 f218 := Tryz.func192.trans (congrArg some (by kernel_rfl))
 f219 := Tryz.func193.trans (congrArg some (by kernel_rfl))
 f221 := Tryz.func135.trans (congrArg some (by kernel_rfl))
 f224 := Tryz.func216.trans (congrArg some (by kernel_rfl))
 f225 := Tryz.func215.trans (congrArg some (by kernel_rfl))
 f260 := Tryz.func213.trans (congrArg some (by kernel_rfl))
 f266 := Tryz.func235.trans (congrArg some (by kernel_rfl))
 f267 := Tryz.func217.trans (congrArg some (by kernel_rfl))
 f268 := Tryz.func161.trans (congrArg some (by kernel_rfl))
 f314 := Tryz.func236.trans (congrArg some (by kernel_rfl))
 t0 := Tryz.underlying0
 a0 := Tryz.isAgg0
 z0 := Tryz.sizeOf0
 v0 := Tryz.zeroValue0
 t3 := Tryz.underlying3
 a3 := Tryz.isAgg3
 z3 := Tryz.sizeOf3
 v3 := Tryz.zeroValue3
 t4 := Tryz.underlying4
 a4 := Tryz.isAgg4
 z4 := Tryz.sizeOf4
 v4 := Tryz.zeroValue4
 t5 := Tryz.underlying5
 a5 := Tryz.isAgg5
 z5 := Tryz.sizeOf5
 v5 := Tryz.zeroValue5
 t9 := Tryz.underlying9
 a9 := Tryz.isAgg9
 z9 := Tryz.sizeOf9
 v9 := Tryz.zeroValue9
 t21 := Tryz.underlying21
 a21 := Tryz.isAgg21
 z21 := Tryz.sizeOf21
 v21 := Tryz.zeroValue21
 t31 := Tryz.underlying124
 a31 := Tryz.isAgg124
 z31 := Tryz.sizeOf124
 v31 := Tryz.zeroValue124
 t46 := Tryz.underlying232
 a46 := Tryz.isAgg232
 z46 := Tryz.sizeOf232
 v46 := Tryz.zeroValue232
 t51 := Tryz.underlying241
 a51 := Tryz.isAgg241
 z51 := Tryz.sizeOf241
 v51 := Tryz.zeroValue241
 t105 := Tryz.underlying221
 a105 := Tryz.isAgg221
 z105 := Tryz.sizeOf221
 v105 := Tryz.zeroValue221
 t119 := Tryz.underlying257
 a119 := Tryz.isAgg257
 z119 := Tryz.sizeOf257
 t138 := Tryz.underlying259
 a138 := Tryz.isAgg259
 z138 := Tryz.sizeOf259
 v138 := Tryz.zeroValue259
 t139 := Tryz.underlying260
 a139 := Tryz.isAgg260
 z139 := Tryz.sizeOf260
 v139 := Tryz.zeroValue260
 t146 := Tryz.underlying261
 a146 := Tryz.isAgg261
 z146 := Tryz.sizeOf261
 v146 := Tryz.zeroValue261
 g1 := by kernel_rfl
 g3 := by kernel_rfl
 g4 := by kernel_rfl
 i0 := by kernel_rfl
 i3 := by kernel_rfl
 i4 := by kernel_rfl
 i5 := by kernel_rfl
 i9 := by kernel_rfl
 i21 := by kernel_rfl
 i31 := by kernel_rfl
 i46 := by kernel_rfl
 i51 := by kernel_rfl
 i105 := by kernel_rfl
 i138 := by kernel_rfl
 i139 := by kernel_rfl
 i146 := by kernel_rfl
 m1 := by kernel_rfl
 s1_3 := fun w h => Go.Proofs.cell_of_shapedOpen_int (zero := #[.int .i64 0]) (t := 3) h (of_decide_eq_true (by kernel_rfl)) (by kernel_rfl) rfl (by kernel_rfl) (by kernel_rfl) Tryz.underlying3
 m3 := by kernel_rfl
 m4 := by kernel_rfl }

end Go.Proofs

namespace Go.Proofs.YtbchpkmcpplidaaGreatDoor
open Go.RowKit
set_option maxRecDepth 100000

theorem gPow : Tryz.prog.globalNamed "internal/strconv.uint64pow10" = some 1 := by kernel_rfl
abbrev TabW (w : World) : Prop := Lib.TabIs Tryz.prog w "internal/strconv.uint64pow10" .u64 Lib.pow10Tab
theorem TabW.below {w w' : World} (h : TabW w) (hb : Below w.heap.size w w') : TabW w' := Joins.tab_stays gPow h hb (Nat.le_refl _)
theorem itoaOk_tab {w : World} (h : TabW w) (n : Int) (h0 : -9223372036854775808 ≤ n) (h1 : n ≤ 9223372036854775807) : ItoaOk w n := by
 intro w' hb
 refine (Tryz.strconv_Itoa n h0 h1 w' (h.below hb)).mono ?_
 rintro e w'' ⟨rfl, k, os, rfl⟩
 exact ⟨rfl, Lib.below_grow _ _ (Nat.le_refl _) _ _⟩
theorem gPowT : (Tryz.prog.globals[1]?).map (·.type) = some 240 := by kernel_rfl
/-- a row's condition lays the table. -/
theorem tabW_of {W : World} {l : List (String × DataW Unit)} (hL : laidMetH Tryz.prog l W) (he : (l.filter fun x => x.2.handleName?.isNone).filter (fun p => p.1 == "internal/strconv.uint64pow10") = [("internal/strconv.uint64pow10", Lib.tabData .u64 Lib.pow10Tab)]) : TabW W := by
 have h := (laidMetH_iff.1 hL).1.filter (fun p => p.1 == "internal/strconv.uint64pow10")
 rw [he] at h
 exact Lib.tabIs_of_head gPow gPowT Tryz.underlying240 Tryz.underlying201 (by kernel_rfl) (by kernel_rfl) h
end Go.Proofs.YtbchpkmcpplidaaGreatDoor

namespace Go.Proofs.YtbchpkmcpplidaaGreatDoor
open Go.RowKit
set_option maxHeartbeats 1000000
set_option maxRecDepth 100000

open Go.Maps in
/-- the map counts the numbers of the list. -/
structure CntD (D : DataW Unit) (l : List Int) : Prop where
 map : IsMap D
 key : ∀ kl, has D kl = true ↔ ∃ x ∈ l, kl = .int .i64 x
 cnt : ∀ x ∈ l, ∀ z, D.atKey (.int .i64 x) z = .lit (.int .i64 (l.count x))
end Go.Proofs.YtbchpkmcpplidaaGreatDoor

namespace Go.Proofs.YtbchpkmcpplidaaGreatDoor
open Go.RowKit Go.Maps
set_option maxRecDepth 100000

def CntM (w : World) (b n : Nat) (l : List Int) : Prop := ∃ D : DataW Unit, w.ownsMap Tryz.prog 3 (plainElem Tryz.prog 3) b n D ∧ CntD D l
theorem CntM.kept {w w' : World} {b n : Nat} {l : List Int} {row : Option Nat} (h : CntM w b n l) (hg : w.grownBy w' row) (hne : some b ≠ row) : CntM w' b n l := by
 obtain ⟨D, h1, h2⟩ := h; exact ⟨D, h1.kept hg hne, h2⟩
theorem CntM.lt {w : World} {b n : Nat} {l : List Int} (h : CntM w b n l) : b < w.heap.size := by obtain ⟨D, h1, _⟩ := h; exact h1.lt
section
variable {ops : Array Oper} {rest : List Oper} {a : Act} {Q : Exit → Act → World → Prop} {d : Option Tmp} {ty : TypeId} {p : String} {m x y : Operand} {af : Array Edge} {g : Option (Nat × Bool)} {b n B : Nat} {k : Int} {w0 w : World} {L : List Pc} {l : List Int}
end
section
variable {P : Program} {ops : Array Oper} {rest : List Oper} {a : Act} {α : Type} {c : α → Value} {sz bytes : Nat} {t e t2 e2 : TypeId} {z : Value} {ad : Option Addr} {cap n : Nat} {l : List α} {k : Int} {w : World}
 {d1 d2 d3 : Tmp} {ty1 ty2 ty3 : TypeId} {p1 p2 p3 : String} {s x : Operand} {af1 af2 af3 : Array Edge} {j : Nat} {g1 g2 g3 : Option (Nat × Bool)}
end
section
variable {P : Program} {ops : Array Oper} {a : Act} {ty : TypeId} {p : String} {af : Array Edge} {g : Option (Nat × Bool)} {d : Tmp} {C : World → Prop}
theorem yieldsK_cellC {e : TypeId} {s : Operand} {x : Addr} {v : Value} (hF : Flat P e) (hb : ∀ w, C w → w.cell? x = some v) (hg : Region.wanted (⟨some d, .load e s, ty, p, af, g⟩ : Oper) (yielded ops a.tmps) = true) (hs : a.eval s = .pointer (some x)) :
  YieldsK P ops C ⟨some d, .load e s, ty, p, af, g⟩ v a :=
 .inl ⟨hg, fun w' hw' => by simp [execOp, hs, run_loadAt_cell w' hF (hb w' hw'), Result.andThen]⟩
end
end Go.Proofs.YtbchpkmcpplidaaGreatDoor
