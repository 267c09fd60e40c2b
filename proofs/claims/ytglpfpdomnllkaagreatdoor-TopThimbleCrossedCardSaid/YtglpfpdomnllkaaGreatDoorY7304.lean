/- Contracts and plain facts that the claim uses (NrM NrT CiB Lib2 ItA TpF MbJ MbK AwN K11p GsP NfP NfQ NfR). Conditions: as each one states. -/
import Derived.Shelf.Strings.Trim
import Derived.Shelf.Strings.SlTrimAscii
import Derived.Shelf.Strings.Repeat
import Derived.Shelf.Strings.OnBuilder
import Derived.Shelf.Strconv.Itoa1
import Derived.Shelf.Strconv.Itoa3
import Derived.Shelf.LaysM
import Derived.Ground.Names2Prog
import Derived.Test.YtglpfpdomnllkaaGreatDoorProg
import Derived.WalkKit
import Derived.WalkSpells
import Derived.Maps.AppendAt
import Derived.Deep.Quiet
import Derived.Maps.Own
import Derived.Maps.OwnSet
import Derived.Maps.Views
import Derived.WalkLawsBesides
import Derived.Laws.EntriesVeiled
import Derived.Deep.QuietTactic
import Derived.BigQuiet
import Derived.Lib.OthersKept
import Derived.Deep.RegionHeld3
import Derived.Deep.AppendLies
import Derived.Deep.RegionHeldLaw
import Derived.Deep.RegionLaw
import Derived.Lib.ItoaLen
import Derived.Lib.ItoaMem
import Derived.RangeFuncNested
import Derived.RangeFuncBound
import Derived.RangeFuncCalls
import Derived.RangeFuncLeaves
import Derived.RangeFuncFrom
import Derived.Shelf.Abstract
import Derived.Shelf.RegionOpen
import Derived.OwnWalkIn
import Derived.TacticsInMore
import Derived.LoopNIn
import Derived.LoopIn
import Derived.Deep.LoopGhost
import Derived.Laws.CopyOwn
import Derived.IntWalk
import Derived.Sort.LoopGhostIn
import Derived.StillTail
import Derived.Laws.Tables
import Derived.BigRegion
import Derived.ChangeAlike
import Derived.Shelf.Bits.Mul64
import Derived.Maps.RangeWalk
import Derived.Lib.AppendIntMem
import Derived.Lib.SmallJoins
import Derived.LaidSub
import Derived.Lib.LaidTab
import Derived.Lib.Split
import Derived.Lib.AtoiAll
import Derived.Lib.AtoiErrMem
import Derived.Maps.Ext
import Derived.Stop.LaidErr
import Derived.ReadAgain
import Derived.ChangeSlices
import Derived.OpenShut
import Derived.ProofKit
import Derived.Deep.DeepHandedRow
import Derived.Deep.SlicePairs
import Derived.Sort.QuietThIn
import Derived.Test.YtglpfpdomnllkaaGreatDoorXd01
import Derived.Test.YtglpfpdomnllkaaGreatDoorXd02
import Derived.Test.YtglpfpdomnllkaaGreatDoorXd03
import Derived.Test.YtglpfpdomnllkaaGreatDoorXd04
import Derived.Test.YtglpfpdomnllkaaGreatDoorY7301
import Derived.Test.YtglpfpdomnllkaaGreatDoorY7302
import Derived.Test.YtglpfpdomnllkaaGreatDoorY7303
set_option linter.all false

namespace Go.Proofs.YtglpfpdomnllkaaGreatDoor
open Go.RowKit
set_option maxHeartbeats 2000000
set_option maxRecDepth 100000

def strZ : Value → Nat | .string s => if s.size = 0 then 1 else 0 | _ => 0
theorem rdecimal_any (N : Nat) (w : World) (hN : N < 1000000000000000000) :
  Calls Tryz.prog 84 #[.int .i64 N, .int .i64 1] w fun r w' => r = .returned (.string (itoaB N)) ∧ w = w' := by
 have hl := decD_len 17 N (by simpa using hN)
 have HL := hid hl
 clear hl
 go_enter Tryz.func84, Tryz.ntmps84
 go_wp2_with fail
 go_loopw [0, 5] (fun nv sv wr => ∃ (c : Nat) (t : List UInt8), nv = .int .i64 c ∧ sv = .string (bT t) ∧ c ≤ N ∧ decInv N c t ∧ w = wr) (fun nv sv _ => (intOf nv).toNat + strZ sv)
 case atStart => exact ⟨N, [], rfl, rfl, Nat.le_refl _, decInv_start N, rfl⟩
 case round =>
  obtain ⟨c, t, rfl, rfl, hc, hinv, rfl⟩ := hrel
  have hsz : (bT t).size ≤ 18 := by have := decInv_len hinv; have := HL.out; rw [bT_size]; omega
  have hst := fun h => decInv_step hinv h
  have HST := hid hst
  have hx := dig10_at (c % 10) (Nat.mod_lt _ (by decide))
  have HX := hid hx
  have HINV := hid hinv
  clear hst hx hinv
  by_cases h0 : 0 < c
  ·go_wp2_with fail
   have hx := HX.out
   unfold dig10 at hx
   refine ⟨⟨c / 10, (UInt8.ofNat (48 + c % 10) :: t), by first | omega | (congr 1; done) | (congr 1; omega) | rfl, by rw [hx, bT_app]; rfl, by omega, HST.out (.inl h0), by trivial⟩, ?_⟩
   rw [hx, bT_app]
   simp only [strZ, bT_size, intOf]
   simp
   omega
  ·have hc0 : c = 0 := by omega
   subst hc0
   by_cases ht : t = []
   ·subst ht
    go_wp2_with fail
    exact ⟨⟨0, [48], rfl, by first | rfl | (congr 1; decide), by omega, HST.out (.inr rfl), by trivial⟩, by first | decide | kernel_rfl | (simp [strZ, intOf]; decide)⟩
   ·have hs1 : ¬ (bT t).size < 1 := by rw [bT_size]; have := List.length_pos_iff.2 ht; omega
    have he := decInv_end HINV.out ht
    have HE := hid he; clear he
    go_wp2_with fail
    go_ret
    exact ⟨by rw [HE.out]; rfl, rfl⟩

theorem rslash_any (s : ByteArray) (K : Nat) (w : World) (h : SlashAt s K) (hz : s.size ≤ 1048576) :
  Calls Tryz.prog 41 #[.string s] w fun r w' => r = .returned (.int .i64 K) ∧ w = w' := by
 have h1 := h.le
 have HN := hid h.no; have HY := hid h.yes
 clear h
 go_enter Tryz.func41, Tryz.ntmps41
 go_wp2_with fail
 go_loopw [3] (fun i wr => ∃ k : Nat, k ≤ K ∧ i = .int .i64 k ∧ w = wr) (fun i _ => s.size - (intOf i).toNat)
 case atStart => exact ⟨0, by omega, rfl, rfl⟩
 case round =>
  obtain ⟨k, hk, rfl, rfl⟩ := hrel
  by_cases hlt : k < s.size
  ·have hb := byteAt_in hlt
   by_cases e : k = K
   ·subst e
    have hy := HY.out hlt
    rw [hb] at hy
    have d1 : (((s[k]'hlt).toNat : Int) == 47) = true := by simpa using hy
    clear hy hb
    go_wp2_with fail
    go_ret
    exact ⟨rfl, rfl⟩
   ·have hn := HN.out k (by omega)
    rw [hb] at hn
    have d1 : (((s[k]'hlt).toNat : Int) == 47) = false := by simpa using hn
    clear hn hb
    go_wp2_with fail
    exact ⟨⟨k + 1, by omega, by go_num, by trivial⟩, by simp [intOf]; omega⟩
  ·have : k = K := by omega
   subst this
   have e : k = s.size := by omega
   have HE := hid e; clear e
   go_wp2_with fail
   go_ret
   exact ⟨by rw [← HE.out]; rfl, rfl⟩

theorem rvalue_any (p : Nat) (w : World) (hp : p < 1000000000) :
  Calls Tryz.prog 109 #[.string (itoaB p)] w fun r w' => r = .returned (.int .i64 p) ∧ w = w' := by
 have hz := (itoaB_len hp).1
 have hdig := fun k (h : k < (itoaB (p : Int)).size) => itoaB_dig (p := p) h
 have hval : ∀ k : Nat, k ≤ (itoaB (p : Int)).size → valL ((Lib.decDigits p).take k) < 10 ^ k := fun k hk => valL_lt _ (decD_dig p) k (by rw [itoaB_bT, bT_size] at hk; exact hk)
 have hstep : ∀ (k : Nat) (h : k < (itoaB (p : Int)).size), (valL ((Lib.decDigits p).take (k + 1)) : Int) = 10 * valL ((Lib.decDigits p).take k) + (((itoaB (p : Int))[k]'h).toNat : Int) - 48 := by
  intro k h
  have h2 : k < (Lib.decDigits p).length := by rw [itoaB_bT, bT_size] at h; exact h
  have h3 := decD_dig p _ (List.getElem_mem h2)
  have h4 : (((itoaB (p : Int))[k]'h).toNat : Int) = ((Lib.decDigits p)[k].toNat : Int) := by
   rw [← byteAt_in h]
   simp only [itoaB_bT]
   rw [bT_at h2]
  rw [h4, valL_take h2]; omega
 have hend : valL ((Lib.decDigits p).take (itoaB (p : Int)).size) = p := by
  rw [itoaB_bT, bT_size, List.take_of_length_le (Nat.le_refl _), valL_dec]
 obtain ⟨s, hs⟩ : ∃ s, s = itoaB (p : Int) := ⟨_, rfl⟩
 have hbig : ∀ k : Nat, k ≤ 9 → 10 ^ k ≤ 1000000000 := fun k hk => by
  have := Nat.pow_le_pow_right (n := 10) (by decide) hk
  simpa using this
 obtain ⟨vl, hvl⟩ : ∃ vl : Nat → Nat, vl = fun k => valL ((Lib.decDigits p).take k) := ⟨_, rfl⟩
 have hval2 : ∀ k : Nat, k ≤ s.size → vl k < 1000000000 := fun k hk => by
  rw [hs] at hk; rw [hvl]
  exact Nat.lt_of_lt_of_le (hval k hk) (hbig k (by omega))
 have hstep2 : ∀ (k : Nat) (h : k < s.size), (vl (k + 1) : Int) = 10 * vl k + ((s[k]'h).toNat : Int) - 48 := by subst hs; subst hvl; exact hstep
 have hend2 : vl s.size = p := by subst hs; subst hvl; exact hend
 have hdig2 : ∀ k (h : k < s.size), 48 ≤ byteAt s k ∧ byteAt s k ≤ 57 := by subst hs; exact hdig
 have h02 : vl 0 = 0 := by subst hvl; rfl
 rw [← hs] at hz ⊢
 have HV := hid hval2; have HS := hid hstep2; have HE := hid hend2; have HD := hid hdig2; have H0 := hid h02
 clear hval2 hstep2 hend2 hdig2 h02 hval hstep hend hdig hbig hs hvl
 go_enter Tryz.func109, Tryz.ntmps109
 go_wp2_with fail
 go_loopw [3, 4] (fun nv i wr => ∃ k : Nat, k ≤ s.size ∧ i = .int .i64 k ∧ nv = .int .i64 (vl k) ∧ w = wr) (fun _ i _ => s.size - (intOf i).toNat)
 case atStart => exact ⟨0, by omega, rfl, by rw [H0.out]; rfl, rfl⟩
 case round =>
  obtain ⟨k, hk, rfl, rfl, rfl⟩ := hrel
  have hv := HV.out k hk
  by_cases hlt : k < s.size
  ·have hd := HD.out k hlt
   rw [byteAt_in hlt] at hd
   have hst := HS.out k hlt
   have HST := hid hst; clear hst
   go_wp2_with fail
   exact ⟨⟨k + 1, by omega, by go_num, by rw [HST.out]; try (congr 1; omega), by trivial⟩, by simp [intOf]; omega⟩
  ·have : k = s.size := by omega
   subst this
   go_wp2_with fail
   go_ret
   exact ⟨by rw [HE.out]; rfl, rfl⟩

theorem rquick_any (p q : Nat) (w : World) (hp : p < 1000000000) (hq : q < 1000000000) :
  Calls Tryz.prog 80 #[.string (textQ p q)] w fun r w' => r = .returned (.tuple #[.int .i64 p, .int .i64 q, .bool true]) ∧ w = w' := by
 obtain ⟨z1, z2⟩ := textQ_size hp hq
 obtain ⟨z3, z4⟩ := itoaB_len hp
 obtain ⟨z5, z6⟩ := itoaB_len hq
 have hd := textQ_pre (p := p) (q := q) z4
 have hsl := textQ_slash p q
 have hnum := textQ_num p q
 have hle := hsl.le
 obtain ⟨s, hs⟩ : ∃ s, s = textQ p q := ⟨_, rfl⟩
 obtain ⟨k, hk⟩ : ∃ k, k = (itoaB (p : Int)).size := ⟨_, rfl⟩
 have CS := fun w => rslash_any s k w (by rw [hs, hk]; exact hsl) (by rw [hs]; omega)
 have CP := fun w => rvalue_any p w hp
 have CQ := fun w => rvalue_any q w hq
 rw [← hs] at z1 z2 hd hnum hle ⊢
 rw [← hk] at hnum z3 z4 hle
 have z2' : 0 < s.size := z2
 rw [byteAt_in z2'] at hd
 have d1 : (((s[0]'z2').toNat : Int) == 45) = false := by simp; omega
 have HCS := hid CS; have HCQ := hid CQ
 have HN := hid hnum
 by_cases h1 : q = 1
 ·have hks : k = s.size := by rw [hs, hk, h1, textQ_one]
  have hse : itoaB (p : Int) = s := by rw [hs, h1, textQ_one]
  rw [hse] at CP
  have HCP := hid CP
  subst h1
  clear hse CS CP CQ hnum hs hk hsl hd HCQ
  go_enter Tryz.func80, Tryz.ntmps80
  go_wp2_with fail
  refine (HCS.out _).mono ?_
  rintro e w' ⟨rfl, rfl⟩
  go_wp2_with fail
  refine (HCP.out _).mono ?_
  rintro e w' ⟨rfl, rfl⟩
  go_wp2_with fail
  go_ret3
  exact ⟨rfl, rfl⟩
 ·have hden := textQ_den (p := p) h1
  have hlt := (textQ_lt (p := p)).2 h1
  have hsz := textQ_sz (p := p) h1
  rw [← hs, ← hk] at hlt hden hsz
  rw [hsz] at hden
  have HDN := hid hden; have HCP := hid CP
  clear CS CP CQ hnum hs hk hsl hd hden
  go_enter Tryz.func80, Tryz.ntmps80
  go_wp2_with fail
  refine (HCS.out _).mono ?_
  rintro e w' ⟨rfl, rfl⟩
  go_wp2_with fail
  rw [HN.out]
  refine (HCP.out _).mono ?_
  rintro e w' ⟨rfl, rfl⟩
  go_wp2_with fail
  rw [HDN.out]
  refine (HCQ.out _).mono ?_
  rintro e w' ⟨rfl, rfl⟩
  go_wp2_with fail
  go_ret3
  exact ⟨rfl, rfl⟩
end Go.Proofs.YtglpfpdomnllkaaGreatDoor

namespace Go.Proofs.YtglpfpdomnllkaaGreatDoor
open Go.RowKit
set_option maxHeartbeats 2000000
set_option maxRecDepth 100000

theorem A_integer : Aggr Tryz.prog 82 := ⟨_, Tryz.underlying82, rfl⟩
theorem ints_empty (w : World) (b o cap : Nat) (h : cap ≤ 9223372036854775807) : Ints w (some ⟨b, o, none⟩) cap [] := ⟨cIntS, Nat.zero_le _, by unfold maxLen; omega, fun e => (by cases e), fun j u hu => (by simp at hu)⟩
theorem wd_ints {w : World} {a : Option Addr} {cap x : Nat} (hS : Ints w a cap [(x : Int)]) : Ints w a cap (wD x) := by
 by_cases hx : x = 0
 ·subst hx
  obtain ⟨b, o, rfl, _⟩ := hS.cells (by decide) 0 0 (by simp)
  exact ints_empty _ _ _ _ hS.max
 ·rw [wD_pos (by omega)]; exact hS
theorem wd_cases (x : Nat) : (x = 0 ∧ wD x = []) ∨ (0 < x ∧ wD x = [(x : Int)]) := by
 by_cases hx : x = 0
 ·exact .inl ⟨hx, by rw [hx]; rfl⟩
 ·exact .inr ⟨by omega, wD_pos (by omega)⟩

theorem rtrim_any (x : Nat) (a : Option Addr) (cap : Nat) (w : World) (hS : Ints w a cap [(x : Int)]) :
  Calls Tryz.prog 112 #[.slice a 1 cap] w fun r w' => r = .returned (.slice a (wD x).length cap) ∧ w = w' := by
 have hcap := hS.le
 have hm0 := hS.max
 simp only [List.length_cons, List.length_nil] at hcap
 obtain ⟨b, o, rfl, hc⟩ := hS.cells (by decide) 0 0 (by simp)
 have hc := hc 0 (.int .i64 x) rfl
 simp only [Nat.mul_one, Nat.add_zero, Nat.zero_mul] at hc
 by_cases hx : x = 0
 ·subst hx
  go_enter Tryz.func112, Tryz.ntmps112
  go_wp2_with fail
  go_loopw [0] (fun v wr => (v = .slice (some ⟨b, o, none⟩) 1 cap ∨ v = .slice (some ⟨b, o, none⟩) 0 cap) ∧ w = wr) (fun v _ => lenV v)
  case atStart => exact ⟨.inl rfl, rfl⟩
  case round =>
   obtain ⟨rfl | rfl, rfl⟩ := hrel
   ·go_wp2_with fail
    exact ⟨⟨.inr rfl, by trivial⟩, by simp [lenV]⟩
   ·go_wp2_with fail
    go_ret
    exact ⟨rfl, rfl⟩
 ·have hxi : ((x : Int) == 0) = false := by simp; omega
  have hw : wD x = [(x : Int)] := wD_pos (by omega)
  rw [hw]
  clear hw
  go_enter Tryz.func112, Tryz.ntmps112
  go_wp2_with fail
  go_loopw [0] (fun v wr => v = .slice (some ⟨b, o, none⟩) 1 cap ∧ w = wr) (fun v _ => 0)
  case atStart => exact ⟨rfl, rfl⟩
  case round =>
   obtain ⟨rfl, rfl⟩ := hrel
   go_wp2_with fail
   go_ret
   exact ⟨rfl, rfl⟩
theorem rtrimE_any (a : Option Addr) (cap : Nat) (w : World) :
  Calls Tryz.prog 112 #[.slice a 0 cap] w fun r w' => r = .returned (.slice a 0 cap) ∧ w = w' := by
 go_enter Tryz.func112, Tryz.ntmps112
 go_wp2_with fail
 go_loopw [0] (fun v wr => v = .slice a 0 cap ∧ w = wr) (fun v _ => 0)
 case atStart => exact ⟨rfl, rfl⟩
 case round =>
  obtain ⟨rfl, rfl⟩ := hrel
  go_wp2_with fail
  go_ret
  exact ⟨rfl, rfl⟩
theorem rsigned_any (x : Nat) (a : Option Addr) (cap : Nat) (w : World) (hS : Ints w a cap [(x : Int)]) :
  Calls Tryz.prog 85 #[.bool false, .slice a 1 cap] w fun r w' => r = .returned (.agg #[.bool false, .slice a (wD x).length cap]) ∧ Below w.heap.size w w' := by
 have CT := fun w (hS : Ints w a cap [(x : Int)]) => rtrim_any x a cap w hS
 have HT := hid CT; clear CT
 have hl := wD_len x
 have hS0 := (SL.nil w).box (.cells #[.bool false, .slice none 0 0] 82)
 go_enter Tryz.func85, Tryz.ntmps85
 go_wp2_with fail
 refine (HT.out _ (hS.alloc _)).mono ?_
 rintro e w1 ⟨rfl, rfl⟩
 go_wp2_with ((with_reducible refine wpList_stoR (us := #[.bool false, .slice a (wD x).length cap]) 0 wU wU (hS0) wU kR wU wU ?_); intro w2 hS2)
 exact bodyPost_ret (results_cell rfl rfl A_integer kR (hS2.blk 0 rfl).1) rfl ⟨rfl, hS2.b⟩
theorem rsignedE_any (a : Option Addr) (cap : Nat) (w : World) :
  Calls Tryz.prog 85 #[.bool false, .slice a 0 cap] w fun r w' => r = .returned (.agg #[.bool false, .slice a 0 cap]) ∧ Below w.heap.size w w' := by
 have CT := fun w => rtrimE_any a cap w
 have HT := hid CT; clear CT
 have hS0 := (SL.nil w).box (.cells #[.bool false, .slice none 0 0] 82)
 go_enter Tryz.func85, Tryz.ntmps85
 go_wp2_with fail
 refine (HT.out _).mono ?_
 rintro e w1 ⟨rfl, rfl⟩
 go_wp2_with ((with_reducible refine wpList_stoR (us := #[.bool false, .slice a 0 cap]) 0 wU wU (hS0) wU kR wU wU ?_); intro w2 hS2)
 exact bodyPost_ret (results_cell rfl rfl A_integer kR (hS2.blk 0 rfl).1) rfl ⟨rfl, hS2.b⟩

theorem SL.ownB {α : Type} {c : α → Value} {sz B n cap : Nat} {e : TypeId} {w0 w : World} {L : List Pc} {a : Option Addr} {l : List α} (h : SL B w0 w L) (i : Nat) (hi : L[i]? = some (pOwn c sz e (.slice a n cap) l)) : ∀ b, a = some b → B ≤ b.block := by
 obtain ⟨b, hP, hB, _⟩ := h.upd i hi
 intro b' e1
 subst e1
 exact hB b'.block (hP.2.symm.trans rfl)
/-- an integer of the reference that is not negative, and small. -/
def NatR (w : World) (v : Value) (n : Nat) : Prop := ∃ a cap, v = .agg #[.bool false, .slice a (wD n).length cap] ∧ Ints w a cap (wD n)
theorem NatR.below {w w' : World} {v : Value} {n : Nat} (h : NatR w v n) (hb : Below w.heap.size w w') : NatR w' v n := by
 obtain ⟨a, cap, h1, h2⟩ := h; exact ⟨a, cap, h1, h2.below hb⟩

theorem rwhole_any (x : Nat) (w : World) (hx : x < 1000000000) :
  Calls Tryz.prog 48 #[.int .i64 x] w fun r w' => ∃ a cap, r = .returned (.agg #[.bool false, .slice a (wD x).length cap]) ∧ Ints w' a cap (wD x) ∧ (∀ b, a = some b → w.heap.size ≤ b.block) ∧ Below w.heap.size w w' := by
 have CS := fun a cap w hS => rsigned_any x a cap w hS
 have CE := fun a cap w => rsignedE_any a cap w
 have HS := hid CS; have HE := hid CE; clear CS CE
 have hS0 := ((SL.nil w).box (.cells #[.bool false, .slice none 0 0] 82)).nilS (α := Int) (c := cInt) (sz := 1) (e := 3) cIntS
 by_cases h0 : x = 0
 ·subst h0
  go_enter Tryz.func48, Tryz.ntmps48
  go_wp2_with fail
  go_loopw [0, 3, 5] (fun nv wv _ wr => nv = .int .i64 0 ∧ wv = .slice none 0 0 ∧ SL w.heap.size w wr [pBlk w.heap.size (.cells #[.bool false, .slice none 0 0] 82)]) (fun _ _ _ _ => 0)
  case atStart => exact ⟨rfl, rfl, hS0.tail⟩
  case round =>
   obtain ⟨rfl, rfl, hSL⟩ := hrel
   go_wp2_with fail
   refine (HE.out none 0 wr).mono ?_
   rintro e w1 ⟨rfl, b1⟩
   have hSL1 := hSL.mono b1
   go_wp2_with ((with_reducible refine wpList_stoR (us := #[.bool false, .slice none 0 0]) 0 wU wU (hSL1) wU kR wU wU ?_); intro w2 hS2)
   exact bodyPost_ret (results_cell rfl rfl A_integer kR (hS2.blk 0 rfl).1) rfl ⟨none, 0, rfl, ints_nil _, (fun b e => by cases e), hS2.b⟩
 ·have hmod : (x : Int) % 1000000000 = x := Int.emod_eq_of_lt (by omega) (by omega)
  have hdiv : (x : Int) / 1000000000 = 0 := Int.ediv_eq_zero_of_lt (by omega) (by omega)
  have hne : ((x : Int) != 0) = true := by simp; omega
  go_enter Tryz.func48, Tryz.ntmps48
  go_wp2_with fail
  go_loopw [0, 3, 5] (fun nv wv _ wr => ∃ (c : Nat) (l : List Int), nv = .int .i64 c ∧ ((c = x ∧ l = []) ∨ (c = 0 ∧ l = [(x : Int)])) ∧ SL w.heap.size w wr [pOwn cInt 1 3 wv l, pBlk w.heap.size (.cells #[.bool false, .slice none 0 0] 82)]) (fun nv _ _ _ => (intOf nv).toNat)
  case atStart => exact ⟨x, [], rfl, .inl ⟨rfl, rfl⟩, hS0⟩
  case round =>
   clear hS0
   obtain ⟨c, l, rfl, ⟨rfl, rfl⟩ | ⟨rfl, rfl⟩, hSL⟩ := hrel
   ·have hl0 : ([] : List Int).length ≤ 5 := by simp
    go_wp2_with ((with_reducible refine wpList_pushL (y := (c : Int)) 0 E_ints wU wU (hSL) wU cIntO ⟨rfl, rfl⟩ (by first | with_unfolding_all rfl | simp) wU (by first | omega | (simp; omega)) (by first | omega | (simp; omega)) ?_); intro v3 w3 hS3)
    exact ⟨⟨0, _, rfl, .inr ⟨rfl, rfl⟩, hS3⟩, by simp [intOf]; omega⟩
   ·obtain ⟨a, cap, rfl, hR⟩ := hSL.slice 0 rfl
    clear hmod hdiv hne
    go_wp2_with fail
    refine (HS.out a cap wr hR).mono ?_
    rintro e w1 ⟨rfl, b1⟩
    have hSL1 := hSL.mono b1
    go_wp2_with ((with_reducible refine wpList_stoR (us := #[.bool false, .slice a (wD x).length cap]) 1 wU wU (hSL1) wU kR wU wU ?_); intro w2 hS2)
    exact bodyPost_ret (results_cell rfl rfl A_integer kR (hS2.blk 1 rfl).1) rfl ⟨a, cap, rfl, wd_ints (hS2.rd 0 rfl), hS2.ownB 0 rfl, hS2.b⟩

theorem rtext_any (x : Nat) (v : Value) (w : World) (hx : x < 1000000000) (hv : NatR w v x) :
  Calls Tryz.prog 47 #[v] w fun r w' => r = .returned (.string (itoaB x)) ∧ Below w.heap.size w w' := by
 obtain ⟨a, cap, rfl, hR⟩ := hv
 have CD := fun w => rdecimal_any x w (by omega)
 have HD := hid CD; clear CD
 rcases wd_cases x with ⟨h0, hw⟩ | ⟨h0, hw⟩
 ·subst h0
  rw [hw]
  have hz : itoaB ((0 : Nat) : Int) = ⟨#[48]⟩ := by rw [itoaB_nat, decD_small (by decide)]; rfl
  rw [hz]
  clear hz hw hR
  go_enter Tryz.func47, Tryz.ntmps47
  go_wp2_with fail
  go_ret
  exact ⟨rfl, bal (Below.refl _ _) _⟩
 ·rw [hw] at hR ⊢
  clear hw
  have hR1 := hR.alloc (.cells #[.bool false, .slice a 1 cap] 82)
  go_enter Tryz.func47, Tryz.ntmps47
  go_wp2_with (with_reducible refine wpList_idx _ 0 E_ints F_int cInt1 wU wU (hR1) oD oD (fun _ => wU) (fun _ => ?_))
  refine (HD.out _).mono ?_
  rintro e w1 ⟨rfl, rfl⟩
  go_wp2_with fail
  go_loopw [3, 4] (fun sv iv wr => sv = .string (itoaB x) ∧ iv = .int .i64 (-1) ∧ wr = w.alloc (.cells #[.bool false, .slice a 1 cap] 82)) (fun _ _ _ => 0)
  case atStart => exact ⟨rfl, rfl, rfl⟩
  case round =>
   obtain ⟨rfl, rfl, rfl⟩ := hrel
   go_wp2_with fail
   go_ret
   exact ⟨rfl, bal (Below.refl _ _) _⟩

theorem rparse_any (x : Nat) (w : World) (hx : x < 1000000000) :
  Calls Tryz.prog 78 #[.string (itoaB x)] w fun r w' => ∃ a cap, r = .returned (.agg #[.bool false, .slice a (wD x).length cap]) ∧ Ints w' a cap (wD x) ∧ (∀ b, a = some b → w.heap.size ≤ b.block) ∧ Below w.heap.size w w' := by
 obtain ⟨z1, z2⟩ := itoaB_len hx
 have hd := itoaB_dig z2
 have CV := fun w => rvalue_any x w hx
 have CS := fun a cap w hS => rsigned_any x a cap w hS
 have HS := hid CS; clear CS
 obtain ⟨s, hs⟩ : ∃ s, s = itoaB (x : Int) := ⟨_, rfl⟩
 rw [← hs] at z1 z2 hd CV ⊢
 have HV := hid CV
 rw [byteAt_in z2] at hd
 have d1 : (((s[0]'z2).toNat : Int) == 45) = false := by simp; omega
 clear CV hs hd
 have hS0 := ((SL.nil w).box (.cells #[.bool false, .slice none 0 0] 82)).nilS (α := Int) (c := cInt) (sz := 1) (e := 3) cIntS
 go_enter Tryz.func78, Tryz.ntmps78
 go_wp2_with fail
 go_loopw [0, 4] (fun sv wv wr => sv = .string s ∧ wv = .slice none 0 0 ∧ SL w.heap.size w wr [pOwn cInt 1 3 (.slice none 0 0) [], pBlk w.heap.size (.cells #[.bool false, .slice none 0 0] 82)]) (fun _ _ _ => 0)
 case atStart => exact ⟨rfl, rfl, hS0⟩
 case round =>
  obtain ⟨rfl, rfl, hSL⟩ := hrel
  clear hS0
  have hl0 : ([] : List Int).length ≤ 5 := by simp
  go_wp2_with (first | (go_at_call 109; with_reducible refine (HV.out _).mono ?_; rintro e w' ⟨rfl, rfl⟩) | ((with_reducible refine wpList_pushL (y := (x : Int)) 0 E_ints wU wU (hSL) wU cIntO ⟨rfl, rfl⟩ (by first | with_unfolding_all rfl | simp) wU (by first | omega | (simp; omega)) (by first | omega | (simp; omega)) ?_); intro v3 w3 hS3))
  obtain ⟨a, cap, rfl, hR⟩ := hS3.slice 0 rfl
  go_wp2_with fail
  refine (HS.out a cap w3 hR).mono ?_
  rintro e w1 ⟨rfl, b1⟩
  have hSL1 := hS3.mono b1
  go_wp2_with ((with_reducible refine wpList_stoR (us := #[.bool false, .slice a (wD x).length cap]) 1 wU wU (hSL1) wU kR wU wU ?_); intro w2 hS2)
  exact bodyPost_ret (results_cell rfl rfl A_integer kR (hS2.blk 1 rfl).1) rfl ⟨a, cap, rfl, wd_ints (hS2.rd 0 rfl), hS2.ownB 0 rfl, hS2.b⟩

theorem rFromInt_any (x : Nat) (w : World) (hx : x < 1000000000) :
  Calls Tryz.prog 18 #[.int .i64 x] w fun r w' => r = .returned (.string (itoaB x)) ∧ Below w.heap.size w w' := by
 have CW := fun w => rwhole_any x w hx
 have CT := fun v w hv => rtext_any x v w hx hv
 have HW := hid CW; have HT := hid CT; clear CW CT
 go_enter Tryz.func18, Tryz.ntmps18
 go_wp2_with fail
 refine (HW.out w).mono ?_
 rintro e w1 ⟨a1, c1, rfl, h1, _, b1⟩
 go_wp2_with fail
 refine (HT.out _ w1 ⟨a1, c1, rfl, h1⟩).mono ?_
 rintro e w2 ⟨rfl, b2⟩
 go_wp2_with fail
 go_ret
 exact ⟨rfl, bnext b1 b2⟩

def cmpN (x y : Nat) : Int := if x < y then -1 else if y < x then 1 else 0
theorem rcompare_any (x y : Nat) (a b : Option Addr) (cap cap2 : Nat) (w : World) (hy0 : 0 < y) (hS : Ints w a cap (wD x)) (hT : Ints w b cap2 (wD y)) :
  Calls Tryz.prog 110 #[.slice a (wD x).length cap, .slice b (wD y).length cap2] w fun r w' => r = .returned (.int .i64 (cmpN x y)) ∧ Below w.heap.size w w' := by
 have hw2 := wD_pos hy0
 rw [hw2] at hT ⊢
 clear hw2
 rcases wd_cases x with ⟨h0, hw⟩ | ⟨h0, hw⟩
 ·have e : cmpN x y = -1 := by unfold cmpN; rw [if_pos (by omega)]
  rw [hw, e]
  clear hw e hS
  go_enter Tryz.func110, Tryz.ntmps110
  go_wp2_with fail
  go_ret
  exact ⟨rfl, Below.refl _ _⟩
 ·rw [hw] at hS ⊢
  clear hw
  have hx0 : atD 0 [(x : Int)] 0 = x := rfl
  have hy1 : atD 0 [(y : Int)] 0 = y := rfl
  go_enter Tryz.func110, Tryz.ntmps110
  go_wp2_with fail
  go_loopw [5] (fun iv wr => (iv = .int .i64 0 ∨ (iv = .int .i64 (-1) ∧ x = y)) ∧ Below w.heap.size w wr) (fun iv _ => (intOf iv + 1).toNat)
  case atStart => exact ⟨.inl rfl, Below.refl _ _⟩
  case round =>
   obtain ⟨rfl | ⟨rfl, rfl⟩, hbr⟩ := hrel
   ·have hSr := hS.below hbr
    have hTr := hT.below hbr
    go_wp2_with fail
    refine wp_region_quiet_lit kR kR ?_
    repeat (first | ((with_reducible refine wpQD_idx 0 E_ints F_int cInt1 wU wU (hSr) oD oD (fun _ => wU) (fun _ => ?_)); (try simp only [Act.put, pA, pB, pC]); (try simp only [cInt])) | ((with_reducible refine wpQD_idx 0 E_ints F_int cInt1 wU wU (hTr) oD oD (fun _ => wU) (fun _ => ?_)); (try simp only [Act.put, pA, pB, pC]); (try simp only [cInt])) | quiet_step (fail))
    refine wpQuiet_nil ?_
    intro w2 hb2
    replace hb2 := below_drewN hb2
    try rw [hx0, hy1]
    have hSr2 := hSr.below hb2
    have hTr2 := hTr.below hb2
    by_cases h1 : x < y
    ·have e : cmpN x y = -1 := by unfold cmpN; rw [if_pos h1]
     have HE := hid e; clear e
     have h1' : (x : Int) < y := by omega
     go_wp2_with fail
     go_ret
     exact ⟨by rw [HE.out]; rfl, bnext hbr hb2⟩
    ·have h1' : ¬ (x : Int) < y := by omega
     go_wp2_with fail
     refine wp_region_quiet_lit kR kR ?_
     repeat (first | ((with_reducible refine wpQD_idx 0 E_ints F_int cInt1 wU wU (hSr2) oD oD (fun _ => wU) (fun _ => ?_)); (try simp only [Act.put, pA, pB, pC]); (try simp only [cInt])) | ((with_reducible refine wpQD_idx 0 E_ints F_int cInt1 wU wU (hTr2) oD oD (fun _ => wU) (fun _ => ?_)); (try simp only [Act.put, pA, pB, pC]); (try simp only [cInt])) | quiet_step (fail))
     refine wpQuiet_nil ?_
     intro w3 hb3
     replace hb3 := below_drewN hb3
     try rw [hx0, hy1]
     have b3 := bnext hbr (bnext hb2 hb3)
     by_cases h2 : y < x
     ·have e : cmpN x y = 1 := by unfold cmpN; rw [if_neg h1, if_pos h2]
      have HE := hid e; clear e
      have h2' : (y : Int) < x := by omega
      go_wp2_with fail
      go_ret
      exact ⟨by rw [HE.out]; rfl, b3⟩
     ·have h2' : ¬ (y : Int) < x := by omega
      go_wp2_with fail
      exact ⟨⟨.inr ⟨rfl, by omega⟩, b3⟩, by simp [intOf]⟩
   ·have e : cmpN x x = 0 := by unfold cmpN; rw [if_neg (by omega), if_neg (by omega)]
    have HE := hid e; clear e
    go_wp2_with fail
    go_ret
    exact ⟨by rw [HE.out]; rfl, hbr⟩

theorem rdivDigit_any (x y : Nat) (a : Option Addr) (cap : Nat) (w : World) (hx : x < 1000000000) (hy : y < 1000000000) (hy0 : 0 < y) (hS : Ints w a cap [(x : Int)]) :
  Calls Tryz.prog 111 #[.slice a 1 cap, .int .i64 y] w fun r w' => ∃ a1 c1, r = .returned (.tuple #[.slice a1 (wD (x / y)).length c1, .int .i64 ((x % y : Nat) : Int)]) ∧ Ints w' a1 c1 (wD (x / y)) ∧ Below w.heap.size w w' := by
 have CT := fun a cap w hS => rtrim_any (x / y) a cap w hS
 have HT := hid CT; clear CT
 have hS0 := SL.nil w
 have hx0 : atD 0 [(x : Int)] 0 = x := rfl
 have q1 : ((x / y : Nat) : Int) = (x : Int) / y := Int.natCast_ediv x y
 have q2 : ((x % y : Nat) : Int) = (x : Int) % y := Int.natCast_emod x y
 have b1 : 0 ≤ (x : Int) / y := Int.ediv_nonneg (by omega) (by omega)
 have b2 : (x : Int) / y ≤ x := Int.ediv_le_self _ (by omega)
 have b3 : 0 ≤ (x : Int) % y := Int.emod_nonneg _ (by omega)
 have b4 : (x : Int) % y < y := Int.emod_lt_of_pos _ (by omega)
 have hw1 : IntKind.i64.wrap ((x : Int) / y) = (x : Int) / y := IntWalk.i64_in _ (by omega)
 have hw2 : IntKind.i64.wrap ((x : Int) % y) = (x : Int) % y := IntWalk.i64_in _ (by omega)
 have q3 : (x : Int).tdiv y = (x : Int) / y := Int.tdiv_eq_ediv_of_nonneg (by omega)
 have q4 : (x : Int).tmod y = (x : Int) % y := Int.tmod_eq_emod_of_nonneg (by omega)
 have hq : x / y ≤ x := Nat.div_le_self _ _
 have hr : x % y < y := Nat.mod_lt _ hy0
 have hyn : ¬ (y : Int) = 0 := by omega
 have Q1 := hid q1; have Q2 := hid q2
 rw [q2]
 clear q1 q2
 go_enter Tryz.func111, Tryz.ntmps111
 go_wp2_with ((with_reducible refine wpList_makeL (c := cInt) (1) (0) E_ints cInt1 wU wU (by omega) (by omega) (hS0) ?_); intro ad w1 hS1)
 go_loopw [7, 8, 9] (fun rv iv _ wr => ((rv = .int .i64 0 ∧ iv = .int .i64 0 ∧ SL w.heap.size w wr [pOwn cInt 1 3 (.slice ad 1 1) [0]]) ∨ (rv = .int .i64 ((x : Int) % y) ∧ iv = .int .i64 (-1) ∧ SL w.heap.size w wr [pOwn cInt 1 3 (.slice ad 1 1) [(x : Int) / y]]))) (fun _ iv _ _ => (intOf iv + 1).toNat)
 case atStart => exact .inl ⟨rfl, rfl, hS1⟩
 case round =>
  rcases hrel with ⟨rfl, rfl, hSL⟩ | ⟨rfl, rfl, hSL⟩
  ·have hSr := hS.below hSL.b
   go_wp2_with (first | ((with_reducible refine wpList_idx _ 0 E_ints F_int cInt1 wU wU (hSr) oD oD (fun _ => wU) (fun _ => ?_)); try rw [hx0]) | ((with_reducible refine wpList_storeL (u := ((x : Int) / y)) 0 E_ints cInt1 (sto_int) wU wU (hSL) wU (by first | omega | (simp; done) | (simp; omega)) (by first | omega | (simp; done) | (simp; omega)) (fun _ => wU) (fun _ => wU) ?_); intro _ w3 hS3))
   exact ⟨.inr ⟨rfl, rfl, hS3⟩, by simp [intOf]⟩
  ·have hR := hSL.rd 0 rfl
   rw [← Q1.out] at hR
   clear q3 q4 hw1 hw2
   go_wp2_with fail
   refine (HT.out ad 1 wr hR).mono ?_
   rintro e w1 ⟨rfl, rfl⟩
   go_wp2_with fail
   go_ret2
   exact ⟨_, _, rfl, wd_ints hR, hSL.b⟩
end Go.Proofs.YtglpfpdomnllkaaGreatDoor

namespace Go.Proofs.YtglpfpdomnllkaaGreatDoor
open Go.RowKit
set_option maxHeartbeats 2000000
set_option maxRecDepth 100000

theorem rdivDigits_any (x y : Nat) (a b : Option Addr) (cap cap2 : Nat) (w : World) (hx : x < 1000000000) (hy : y < 1000000000) (hy0 : 0 < y) (hS : Ints w a cap (wD x)) (hT : Ints w b cap2 (wD y)) :
  Calls Tryz.prog 79 #[.slice a (wD x).length cap, .slice b (wD y).length cap2] w fun r w' => ∃ a1 c1 a2 c2, r = .returned (.tuple #[.slice a1 (wD (x / y)).length c1, .slice a2 (wD (x % y)).length c2]) ∧ Ints w' a1 c1 (wD (x / y)) ∧ Ints w' a2 c2 (wD (x % y)) ∧ Below w.heap.size w w' := by
 have CC := rcompare_any x y a b cap cap2 w hy0 hS hT
 by_cases h1 : x < y
 ·have e0 : cmpN x y = -1 := by unfold cmpN; rw [if_pos h1]
  have e1 : x / y = 0 := Nat.div_eq_of_lt h1
  have e2 : x % y = x := Nat.mod_eq_of_lt h1
  rw [e0] at CC
  rw [e1, e2]
  have HC := hid CC
  clear e0 e1 e2 CC
  go_enter Tryz.func79, Tryz.ntmps79
  go_wp2_with fail
  refine HC.out.mono ?_
  rintro e w1 ⟨rfl, b1⟩
  go_wp2_with fail
  go_ret2
  exact ⟨none, 0, a, cap, rfl, ints_nil _, hS.below b1, b1⟩
 ·have hc : 0 ≤ cmpN x y := by unfold cmpN; rw [if_neg h1]; split <;> omega
  have hxw := wD_pos (show 0 < x by omega)
  have hyw := wD_pos hy0
  rw [hxw] at hS CC ⊢
  rw [hyw] at hT CC ⊢
  have hy1 : atD 0 [(y : Int)] 0 = y := rfl
  have CD := fun w hS => rdivDigit_any x y a cap w hx hy hy0 hS
  have CT := fun a cap w hS => rtrim_any (x % y) a cap w hS
  obtain ⟨k, hk⟩ : ∃ k, k = cmpN x y := ⟨_, rfl⟩
  rw [← hk] at CC hc
  have HC := hid CC; have HD := hid CD; have HT := hid CT
  clear CC CD CT hk hxw hyw
  go_enter Tryz.func79, Tryz.ntmps79
  go_wp2_with fail
  refine HC.out.mono ?_
  rintro e w1 ⟨rfl, b1⟩
  have hT1 := hT.below b1
  go_wp2_with ((with_reducible refine wpList_idx _ 0 E_ints F_int cInt1 wU wU (hT1) oD oD (fun _ => wU) (fun _ => ?_)); try rw [hy1])
  refine (HD.out w1 (hS.below b1)).mono ?_
  rintro e w2 ⟨a2, c2, rfl, hq, b2⟩
  have hR := reps_new1 (w := w2) (e := 3) cIntS ((x % y : Nat) : Int) #[.int .i64 ((x % y : Nat) : Int)] (0, 0) rfl rfl
  go_wp2_with fail
  refine (HT.out _ _ _ hR).mono ?_
  rintro e w3 ⟨rfl, rfl⟩
  go_wp2_with fail
  go_ret2
  exact ⟨_, _, _, _, rfl, hq.alloc _, wd_ints hR, bal (bnext b1 b2) _⟩

theorem rcommon_any (x y : Nat) (a b : Option Addr) (cap cap2 : Nat) (w : World) (hx : x < 1000000000) (hy : y < 1000000000) (hS : Ints w a cap (wD x)) (hT : Ints w b cap2 (wD y)) :
  Calls Tryz.prog 44 #[.slice a (wD x).length cap, .slice b (wD y).length cap2] w fun r w' => ∃ a1 c1, r = .returned (.slice a1 (wD (Nat.gcd x y)).length c1) ∧ Ints w' a1 c1 (wD (Nat.gcd x y)) ∧ Below w.heap.size w w' := by
 go_enter Tryz.func44, Tryz.ntmps44
 go_wp2_with fail
 go_loopg [0, 1, 5, 6] y (fun g va vb _ _ wr => ∃ (p q : Nat) (a b : Option Addr) (ca cb : Nat), g = q ∧ va = .slice a (wD p).length ca ∧ vb = .slice b (wD q).length cb ∧ Ints wr a ca (wD p) ∧ Ints wr b cb (wD q) ∧ p < 1000000000 ∧ q < 1000000000 ∧ Aside (Nat.gcd p q = Nat.gcd x y) ∧ Below w.heap.size w wr)
 case atStart => exact ⟨x, y, a, b, cap, cap2, rfl, rfl, rfl, hS, hT, hx, hy, rfl, Below.refl _ _⟩
 case round =>
  obtain ⟨p, q, a, b, ca, cb, rfl, rfl, rfl, hSr, hTr, hp, hq, HG, hbr⟩ := hrel
  by_cases h0 : gk = 0
  ·subst h0
   have e : p = Nat.gcd x y := by rw [← HG.out, Nat.gcd_zero_right]
   have HE := hid e
   have hl : (wD 0).length ≤ 0 := Nat.le_refl _
   clear e
   go_wp2_with fail
   go_ret
   rw [← HE.out]
   exact ⟨a, ca, rfl, hSr, hbr⟩
  ·have hl : 0 < (wD gk).length := by rw [wD_pos (by omega)]; simp
   have CD := fun w hS hT => rdivDigits_any p gk a b ca cb w hp hq (by omega) hS hT
   have HD := hid CD
   clear CD
   go_wp2_with fail
   refine (HD.out wr hSr hTr).mono ?_
   rintro e w2 ⟨a1, c1, a2, c2, rfl, h1, h2, b2⟩
   have hm : p % gk < gk := Nat.mod_lt _ (by omega)
   go_wp2_with fail
   go_roundg (p % gk)
   case measure => exact hm
   case rel => exact ⟨gk, p % gk, b, a2, cb, c2, rfl, rfl, rfl, hTr.below b2, h2, hq, by omega, by show Nat.gcd gk (p % gk) = _; rw [← HG.out, Nat.gcd_comm gk, ← Nat.gcd_rec, Nat.gcd_comm], bnext hbr b2⟩

theorem rparts_any (x : Nat) (w : World) (hx : x < 1000000000) :
  Calls Tryz.prog 43 #[.string (itoaB x)] w fun r w' => ∃ a c b d, r = .returned (.tuple #[.agg #[.bool false, .slice a (wD x).length c], .agg #[.bool false, .slice b (wD 1).length d]]) ∧ Ints w' a c (wD x) ∧ Ints w' b d (wD 1) ∧ Below w.heap.size w w' := by
 have hsl := textQ_slash x 1
 rw [textQ_one] at hsl
 have hz := (itoaB_len hx).1
 have CP := fun w => rparse_any x w hx
 have CW := fun w => rwhole_any 1 w (by decide)
 obtain ⟨s, hs⟩ : ∃ s, s = itoaB (x : Int) := ⟨_, rfl⟩
 rw [← hs] at hsl hz CP ⊢
 have CS := fun w => rslash_any s s.size w hsl (by omega)
 have HP := hid CP; have HW := hid CW; have HS := hid CS
 clear CP CW CS hs hsl
 have hS0 := ((SL.nil w).box (.cells #[.bool false, .slice none 0 0] 82)).box (.cells #[.bool false, .slice none 0 0] 82)
 simp only [World.size_alloc] at hS0
 go_enter Tryz.func43, Tryz.ntmps43
 go_wp2_with fail
 refine (HS.out _).mono ?_
 rintro e w' ⟨rfl, rfl⟩
 go_wp2_with fail
 refine (HP.out _).mono ?_
 rintro e w1 ⟨a, c, rfl, h1, f1, b1⟩
 have hS1 := hS0.newRd b1 h1 (by decide) f1
 go_wp2_with fail
 refine (HW.out _).mono ?_
 rintro e w2 ⟨b, d, rfl, h2, f2, b2⟩
 have hS2 := hS1.newRd b2 h2 (by decide) f2
 clear hS0 hS1
 go_wp2_with (first | ((with_reducible refine wpList_stoR (us := #[.bool false, .slice a (wD x).length c]) 3 wU wU (hS2) wU kR wU wU ?_); intro w3 hS3) | ((with_reducible refine wpList_stoR (us := #[.bool false, .slice b (wD 1).length d]) 2 wU wU (hS3) wU kR wU wU ?_); intro w4 hS4))
 exact bodyPost_ret (results_cell2 rfl rfl rfl A_integer kR kR (hS4.blk 3 rfl).1 (hS4.blk 2 rfl).1) rfl ⟨a, c, b, d, rfl, hS4.rdR 1 rfl, hS4.rdR 0 rfl, hS4.b⟩

theorem rfraction_any (x y : Nat) (a b : Option Addr) (c d : Nat) (w : World) (hx : x < 1000000000) (hy : y < 1000000000) (hx0 : 0 < x) (hy0 : 0 < y) (hS : Ints w a c (wD x)) (hT : Ints w b d (wD y)) :
  Calls Tryz.prog 82 #[.agg #[.bool false, .slice a (wD x).length c], .agg #[.bool false, .slice b (wD y).length d]] w fun r w' => r = .returned (.string (textQ (x / Nat.gcd x y) (y / Nat.gcd x y))) ∧ Below w.heap.size w w' := by
 have hg0 : 0 < Nat.gcd x y := Nat.gcd_pos_of_pos_left _ hx0
 have hgx : Nat.gcd x y ≤ x := Nat.gcd_le_left _ hx0
 have CC := fun w hS hT => rcommon_any x y a b c d w hx hy hS hT
 obtain ⟨g, hg⟩ : ∃ g, g = Nat.gcd x y := ⟨_, rfl⟩
 rw [← hg] at hg0 hgx CC ⊢
 have hp0 : 0 < x / g := by rw [hg]; exact Nat.div_pos (Nat.gcd_le_left _ hx0) (Nat.gcd_pos_of_pos_left _ hx0)
 have hq0 : 0 < y / g := by rw [hg]; exact Nat.div_pos (Nat.gcd_le_right _ hy0) (Nat.gcd_pos_of_pos_left _ hx0)
 have hp1 : x / g ≤ x := Nat.div_le_self _ _
 have hq1 : y / g ≤ y := Nat.div_le_self _ _
 have CD1 := fun a1 c1 w hS hT => rdivDigits_any x g a a1 c c1 w hx (by omega) hg0 hS hT
 have CD2 := fun a1 c1 w hS hT => rdivDigits_any y g b a1 d c1 w hy (by omega) hg0 hS hT
 obtain ⟨p, hp⟩ : ∃ p, p = x / g := ⟨_, rfl⟩
 obtain ⟨q, hq⟩ : ∃ q, q = y / g := ⟨_, rfl⟩
 rw [← hp] at hp0 hp1 CD1 ⊢
 rw [← hq] at hq0 hq1 CD2 ⊢
 have hpw := wD_pos hp0
 have hqw := wD_pos hq0
 rw [hpw] at CD1
 rw [hqw] at CD2
 have CG1 := fun a c w hS => rsigned_any p a c w hS
 have CG2 := fun a c w hS => rsigned_any q a c w hS
 have CT1 := fun v w hv => rtext_any p v w (by omega) hv
 have CT2 := fun v w hv => rtext_any q v w (by omega) hv
 have hzp := (itoaB_len (show p < 1000000000 by omega)).1
 have hzq := (itoaB_len (show q < 1000000000 by omega)).1
 have HC := hid CC; have HD1 := hid CD1; have HD2 := hid CD2; have HG1 := hid CG1; have HG2 := hid CG2; have HT1 := hid CT1; have HT2 := hid CT2
 clear CC CD1 CD2 CG1 CG2 CT1 CT2 hpw hqw hp hq hg
 have hS0 := ((SL.nil w).box (.cells #[.bool false, .slice a (wD x).length c] 82)).box (.cells #[.bool false, .slice b (wD y).length d] 82)
 simp only [World.size_alloc] at hS0
 go_enter Tryz.func82, Tryz.ntmps82
 go_wp2_with fail
 refine (HC.out _ (hS.below hS0.b) (hT.below hS0.b)).mono ?_
 rintro e w1 ⟨a1, c1, rfl, h1, b1⟩
 have hS1 := hS0.mono b1
 have k1 := hS1.cell 1 rfl 1 rfl
 go_wp2_with fail
 refine (HD1.out a1 c1 w1 (hS.below hS1.b) h1).mono ?_
 rintro e w2 ⟨a2, c2, a3, c3, rfl, h2, h3, b2⟩
 have hS2 := hS1.mono b2
 have h12 := h1.below b2
 have k2 := hS2.cell 0 rfl 1 rfl
 clear k1 h3
 go_wp2_with fail
 refine (HD2.out a1 c1 w2 (hT.below hS2.b) h12).mono ?_
 rintro e w3 ⟨a4, c4, a5, c5, rfl, h4, h5, b3⟩
 have hS3 := hS2.mono b3
 have k3 := hS3.cell 1 rfl 0 rfl
 clear k2 h5
 go_wp2_with fail
 refine (HG1.out a2 c2 w3 (h2.below b3)).mono ?_
 rintro e w4 ⟨rfl, b4⟩
 go_wp2_with fail
 refine (HT1.out _ w4 ⟨a2, c2, rfl, wd_ints ((h2.below b3).below b4)⟩).mono ?_
 rintro e w5 ⟨rfl, b5⟩
 have hS5 := (hS3.mono b4).mono b5
 have h45 := (h4.below b4).below b5
 clear k3 h2 h12 h1 h4
 have hq1' : atD 0 [(q : Int)] 0 = q := rfl
 by_cases e1 : q = 1
 ·subst e1
  have HTQ := hid (textQ_one p)
  go_wp2_with ((with_reducible refine wpList_idxG 0 E_ints F_int cInt1 wU wU (h45) (rfl) oD oD (fun _ => wU) wU (fun _ => wU) (fun _ => ?_)); try rw [hq1'])
  go_ret
  exact ⟨by rw [HTQ.out]; rfl, hS5.b⟩
 ·have hd : ((q : Int) == 1) = false := by simp; omega
  have ht : textQ p q = itoaB (p : Int) ++ ⟨#[47]⟩ ++ itoaB (q : Int) := by unfold textQ; rw [if_neg e1]
  have HTQ := hid ht; clear ht
  go_wp2_with ((with_reducible refine wpList_idxG 0 E_ints F_int cInt1 wU wU (h45) (rfl) oD oD (fun _ => wU) wU (fun _ => wU) (fun _ => ?_)); try rw [hq1'])
  refine (HG2.out a4 c4 w5 h45).mono ?_
  rintro e w6 ⟨rfl, b6⟩
  go_wp2_with fail
  refine (HT2.out _ w6 ⟨a4, c4, rfl, wd_ints (h45.below b6)⟩).mono ?_
  rintro e w7 ⟨rfl, b7⟩
  go_wp2_with fail
  go_ret
  exact ⟨by rw [HTQ.out]; rfl, ((hS5.mono b6).mono b7).b⟩
end Go.Proofs.YtglpfpdomnllkaaGreatDoor

namespace Go.Proofs.YtglpfpdomnllkaaGreatDoor
open Go.RowKit
set_option maxHeartbeats 2000000
set_option maxRecDepth 100000

theorem rReciprocal_any (x : Nat) (w : World) (hx : x < 1000000000) (h0 : 0 < x) :
  Calls Tryz.prog 46 #[.string (itoaB x)] w fun r w' => r = .returned (.string (textQ 1 x)) ∧ Below w.heap.size w w' := by
 have CP := fun w => rparts_any x w hx
 have CF := fun a b c d w hS hT => rfraction_any 1 x a b c d w (by decide) hx (by decide) h0 hS hT
 rw [Nat.gcd_one_left, Nat.div_one, Nat.div_one] at CF
 have HP := hid CP; have HF := hid CF
 clear CP CF
 go_enter Tryz.func46, Tryz.ntmps46
 go_wp2_with fail
 refine (HP.out w).mono ?_
 rintro e w1 ⟨a, c, b, d, rfl, h1, h2, b1⟩
 have hS0 := ((SL.nil w1).box (.cells #[.bool false, .slice none 0 0] 82)).box (.cells #[.bool false, .slice none 0 0] 82)
 simp only [World.size_alloc] at hS0
 go_wp2_with (first | ((with_reducible refine wpList_stoR (us := #[.bool false, .slice a (wD x).length c]) 1 wU wU (hS0) wU kR wU wU ?_); intro w3 hS3) | ((with_reducible refine wpList_stoR (us := #[.bool false, .slice b (wD 1).length d]) 0 wU wU (hS3) wU kR wU wU ?_); intro w4 hS4) | (with_reducible refine wpList_ldS (n := 2) (us := #[.bool false, .slice b (wD 1).length d]) A_integer kR wU wU (hS4.blk 0 rfl).1 wU wU ?_) | (with_reducible refine wpList_ldS (n := 2) (us := #[.bool false, .slice a (wD x).length c]) A_integer kR wU wU (hS4.blk 1 rfl).1 wU wU ?_))
 refine (HF.out b a d c w4 (h2.below hS4.b) (h1.below hS4.b)).mono ?_
 rintro e w5 ⟨rfl, b5⟩
 go_wp2_with fail
 go_ret
 exact ⟨rfl, bnext b1 (bnext hS4.b b5)⟩

theorem rgcdL_any (x y : Int) (w : World) (hx : 0 ≤ x) (hx2 : x ≤ 4611686018427387904) (hy : 0 ≤ y) (hy2 : y ≤ 4611686018427387904) :
  Calls Tryz.prog 115 #[.int .i64 x, .int .i64 y] w fun r w' => r = .returned (.int .i64 (Int.gcd x y)) ∧ Below w.heap.size w w' := by
 go_enter Tryz.func115, Tryz.ntmps115
 go_wp2
 go_loopw [0, 1] (fun p q wr => ∃ a b : Int, p = .int .i64 a ∧ q = .int .i64 b ∧ 0 ≤ a ∧ a ≤ 4611686018427387904 ∧ 0 ≤ b ∧ b ≤ 4611686018427387904 ∧ Int.gcd a b = Int.gcd x y ∧ Below w.heap.size w wr) (fun _ q _ => (intOf q).toNat)
 case atStart => exact ⟨x, y, rfl, rfl, hx, hx2, hy, hy2, rfl, Below.refl _ _⟩
 case round =>
  obtain ⟨a, b, rfl, rfl, ha, ha2, hb, hb2, hg, hbr⟩ := hrel
  have HG := hid hg; clear hg
  by_cases hlt : 0 < b
  ·have hm0 := Int.emod_nonneg a (by omega : b ≠ 0)
   have hm1 := Int.emod_lt_of_pos a hlt
   have hne : ¬ b = 0 := by omega
   have hwr : IntKind.i64.wrap (a.tmod b) = a % b := by rw [Int.tmod_eq_emod_of_nonneg ha]; exact IntWalk.i64_in _ (by omega)
   go_wp2_with fail
   refine wp_region_quiet_lit kR kR ?_
   repeat (first | fail | quiet_step (fail))
   refine wpQuiet_nil ?_
   intro w2 hb2
   replace hb2 := below_drewN hb2
   clear hwr
   go_wp2_with fail
   rw [Int.tmod_eq_emod_of_nonneg (b := b) ha]
   refine ⟨⟨b, a % b, rfl, rfl, by omega, by omega, by omega, by omega, ?_, bnext hbr hb2⟩, by simp [intOf]; omega⟩
   rw [← HG.out, gcd_step ha hb]
  ·have : b = 0 := by omega
   subst this
   have hfin : a = Int.gcd x y := by
    rw [← HG.out, Int.gcd_zero]; omega
   have HF := hid hfin; clear hfin
   go_wp2_with fail
   go_ret
   exact ⟨by rw [← HF.out]; rfl, hbr⟩

theorem rOf_any (x y : Nat) (w : World) (hx : x < 1000000000000000000) (hy : y < 1000000000000000000) (hy0 : 0 < y) :
  Calls Tryz.prog 81 #[.int .i64 x, .int .i64 y] w fun r w' => r = .returned (.string (textQ (x / Nat.gcd x y) (y / Nat.gcd x y))) ∧ Below w.heap.size w w' := by
 have CG := fun w => rgcdL_any x y w (by omega) (by omega) (by omega) (by omega)
 have eg : ((Int.gcd (x : Int) (y : Int) : Nat) : Int) = ((Nat.gcd x y : Nat) : Int) := rfl
 rw [eg] at CG
 have hg0 : 0 < Nat.gcd x y := Nat.gcd_pos_of_pos_right _ hy0
 have hgy : Nat.gcd x y ≤ y := Nat.gcd_le_right _ hy0
 have hq0 : 0 < y / Nat.gcd x y := Nat.div_pos hgy hg0
 obtain ⟨g, hg⟩ : ∃ g, g = Nat.gcd x y := ⟨_, rfl⟩
 rw [← hg] at CG hg0 hgy hq0 ⊢
 have hp1 : x / g ≤ x := Nat.div_le_self _ _
 have hq1 : y / g ≤ y := Nat.div_le_self _ _
 have tp : (x : Int).tdiv g = (x : Int) / g := Int.tdiv_eq_ediv_of_nonneg (by omega)
 have tq : (y : Int).tdiv g = (y : Int) / g := Int.tdiv_eq_ediv_of_nonneg (by omega)
 have ep : (x : Int) / g = ((x / g : Nat) : Int) := rfl
 have eq : (y : Int) / g = ((y / g : Nat) : Int) := rfl
 obtain ⟨p, hp⟩ : ∃ p, p = x / g := ⟨_, rfl⟩
 obtain ⟨q, hq⟩ : ∃ q, q = y / g := ⟨_, rfl⟩
 rw [← hp] at ep hp1 ⊢
 rw [← hq] at eq hq1 hq0 ⊢
 have ewp : IntKind.i64.wrap ((x : Int) / g) = (x : Int) / g := by rw [ep]; exact IntWalk.i64_in _ (by omega)
 have ewq : IntKind.i64.wrap ((y : Int) / g) = (y : Int) / g := by rw [eq]; exact IntWalk.i64_in _ (by omega)
 have CP := fun w => rdecimal_any p w (by omega)
 have CQ := fun w => rdecimal_any q w (by omega)
 have hzp : (itoaB (p : Int)).size ≤ 18 := by have := decD_len 17 p (by omega); rw [itoaB_bT, bT_size]; exact this
 have hzq : (itoaB (q : Int)).size ≤ 18 := by have := decD_len 17 q (by omega); rw [itoaB_bT, bT_size]; exact this
 have hm1 : max (x : Int) (-(x : Int)) = x := by omega
 have hm2 : max (p : Int) (-(p : Int)) = p := by omega
 have hn1 : ¬ (x : Int) < -x := by omega
 have hn2 : ¬ (p : Int) < -p := by omega
 have hgn : ¬ (g : Int) = 0 := by omega
 have hgn2 : ¬ g = 0 := by omega
 have HG := hid CG; have HP := hid CP; have HQ := hid CQ; have EP := hid ep; have EQ := hid eq
 clear CG CP CQ ep eq hp hq hg eg
 have he : (⟨#[]⟩ : ByteArray) ++ itoaB (p : Int) = itoaB (p : Int) := by rw [itoaB_bT, show (⟨#[]⟩ : ByteArray) = bT [] from rfl, bT_app]; rfl
 go_enter Tryz.func81, Tryz.ntmps81
 go_wp2_with fail
 refine (HG.out _).mono ?_
 rintro e w1 ⟨rfl, b1⟩
 go_wp2_with fail
 refine wp_region_quiet_lit kR kR ?_
 repeat (first  | quiet_step (fail))
 refine wpQuiet_nil ?_
 intro w2 b2
 replace b2 := below_drewN b2
 clear ewp ewq tp tq
 rw [EP.out, EQ.out]
 have t2 := bnext b1 b2
 go_wp2_with fail
 refine (HP.out _).mono ?_
 rintro e w' ⟨rfl, rfl⟩
 by_cases h1 : q = 1
 ·subst h1
  have HTQ := hid (textQ_one p)
  go_wp2_with fail
  go_ret
  exact ⟨by rw [HTQ.out]; first | rfl | (rw [← he]; rfl), t2⟩
 ·have h1' : (1 : Int) < q := by omega
  have ht : textQ p q = itoaB (p : Int) ++ ⟨#[47]⟩ ++ itoaB (q : Int) := by unfold textQ; rw [if_neg h1]
  have HTQ := hid ht; clear ht
  go_wp2_with fail
  refine (HQ.out _).mono ?_
  rintro e w' ⟨rfl, rfl⟩
  go_wp2_with fail
  go_ret
  exact ⟨by rw [HTQ.out]; first | rfl | (rw [← he]; rfl), t2⟩

theorem rMul_any (p q r s : Nat) (w : World) (hp : p < 1000000000) (hq : q < 1000000000) (hr : r < 1000000000) (hs : s < 1000000000) (hq0 : 0 < q) (hs0 : 0 < s) :
  Calls Tryz.prog 45 #[.string (textQ p q), .string (textQ r s)] w fun e w' => e = .returned (.string (textQ (p * r / Nat.gcd (p * r) (q * s)) (q * s / Nat.gcd (p * r) (q * s)))) ∧ Below w.heap.size w w' := by
 have h1 : p * r < 1000000000000000000 := by
  have := Nat.mul_le_mul (show p ≤ 999999999 by omega) (show r ≤ 999999999 by omega); omega
 have h2 : q * s < 1000000000000000000 := by
  have := Nat.mul_le_mul (show q ≤ 999999999 by omega) (show s ≤ 999999999 by omega); omega
 have h3 : 0 < q * s := Nat.mul_pos hq0 hs0
 have CA := fun w => rquick_any p q w hp hq
 have CB := fun w => rquick_any r s w hr hs
 have CO := fun w => rOf_any (p * r) (q * s) w h1 h2 h3
 have e1 : ((p * r : Nat) : Int) = (p : Int) * r := Int.natCast_mul _ _
 have e2 : ((q * s : Nat) : Int) = (q : Int) * s := Int.natCast_mul _ _
 rw [e1, e2] at CO
 have b1 : 0 ≤ (p : Int) * r ∧ (p : Int) * r < 1000000000000000000 := by rw [← e1]; omega
 have b2 : 0 ≤ (q : Int) * s ∧ (q : Int) * s < 1000000000000000000 := by rw [← e2]; omega
 have w1 : IntKind.i64.wrap ((p : Int) * r) = (p : Int) * r := IntWalk.i64_in _ (by omega)
 have w2 : IntKind.i64.wrap ((q : Int) * s) = (q : Int) * s := IntWalk.i64_in _ (by omega)
 have HA := hid CA; have HB := hid CB; have HO := hid CO
 clear CA CB CO e1 e2 b1 b2
 go_enter Tryz.func45, Tryz.ntmps45
 go_wp2_with fail
 refine (HA.out w).mono ?_
 rintro e w' ⟨rfl, rfl⟩
 go_wp2_with fail
 refine (HB.out w).mono ?_
 rintro e w' ⟨rfl, rfl⟩
 go_wp2_with fail
 refine (HO.out w).mono ?_
 rintro e w5 ⟨rfl, b5⟩
 go_wp2_with fail
 go_ret
 exact ⟨rfl, b5⟩
theorem rDiv_any (p n : Nat) (w : World) (hp : p < 1000000000) (hn : n < 1000000000) (hn0 : 0 < n) :
  Calls Tryz.prog 17 #[.string (itoaB p), .string (itoaB n)] w fun e w' => e = .returned (.string (textQ (p / Nat.gcd p n) (n / Nat.gcd p n))) ∧ Below w.heap.size w w' := by
 have CR := fun w => rReciprocal_any n w hn hn0
 have CM := fun w => rMul_any p 1 1 n w hp (by omega) (by omega) hn (by omega) hn0
 rw [textQ_one, Nat.mul_one, Nat.one_mul] at CM
 have HR := hid CR; have HM := hid CM; clear CR CM
 go_enter Tryz.func17, Tryz.ntmps17
 go_wp2_with fail
 refine (HR.out w).mono ?_
 rintro e w1 ⟨rfl, b1⟩
 go_wp2_with fail
 refine (HM.out w1).mono ?_
 rintro e w2 ⟨rfl, b2⟩
 go_wp2_with fail
 go_ret
 exact ⟨rfl, bnext b1 b2⟩
end Go.Proofs.YtglpfpdomnllkaaGreatDoor

namespace Go.Proofs.YtglpfpdomnllkaaGreatDoor
open Go.RowKit
set_option maxHeartbeats 2000000
set_option maxRecDepth 100000

end Go.Proofs.YtglpfpdomnllkaaGreatDoor

namespace Go.Proofs.YtglpfpdomnllkaaGreatDoor
open Go.RowKit
set_option maxHeartbeats 2000000
set_option maxRecDepth 100000

theorem decD_first {u : Nat} (h : 0 < u) : ∃ b r, Lib.decDigits u = b :: r ∧ 49 ≤ b.toNat ∧ b.toNat ≤ 57 := by
 induction u using Nat.strongRecOn with
 | _ u ih =>
  by_cases h10 : u < 10
  ·rw [decD_small h10]
   refine ⟨_, [], rfl, ?_⟩
   rw [digB h10]; omega
  ·rw [decD_big h10]
   obtain ⟨b, r, e, h1, h2⟩ := ih (u / 10) (by omega) (by omega)
   rw [e]
   exact ⟨b, r ++ [UInt8.ofNat (48 + u % 10)], rfl, h1, h2⟩
theorem itoaB_first {p : Nat} (h : 0 < p) : 49 ≤ byteAt (itoaB (p : Int)) 0 ∧ byteAt (itoaB (p : Int)) 0 ≤ 57 := by
 obtain ⟨b, r, e, h1, h2⟩ := decD_first h
 rw [itoaB_bT, bT_at (k := 0) (by rw [e]; simp)]
 simp only [e, List.getElem_cons_zero]
 omega
theorem slashAt_none {s : ByteArray} (h : ∀ j, j < s.size → 48 ≤ byteAt s j ∧ byteAt s j ≤ 57) : SlashAt s s.size :=
 ⟨Nat.le_refl _, fun j hj => by have := h j hj; omega, fun h => absurd h (Nat.lt_irrefl _)⟩

theorem rDigits_any (s : ByteArray) (w : World) (hz : s.size ≤ 1048576) (hd : ∀ k, k < s.size → 48 ≤ byteAt s k ∧ byteAt s k ≤ 57) :
  Calls Tryz.prog 77 #[.string s] w fun r w' => r = .returned (.bool true) ∧ w = w' := by
 have HD := hid hd; clear hd
 go_enter Tryz.func77, Tryz.ntmps77
 go_wp2_with fail
 go_loopw [3] (fun i wr => ∃ k : Nat, k ≤ s.size ∧ i = .int .i64 k ∧ w = wr) (fun i _ => s.size - (intOf i).toNat)
 case atStart => exact ⟨0, by omega, rfl, rfl⟩
 case round =>
  obtain ⟨k, hk, rfl, rfl⟩ := hrel
  by_cases hlt : k < s.size
  ·have hb := HD.out k hlt
   rw [byteAt_in hlt] at hb
   have d1 : ¬ (((s[k]'hlt).toNat : Int) < 48) := by omega
   have d2 : ¬ (57 < ((s[k]'hlt).toNat : Int)) := by omega
   go_wp2_with fail
   exact ⟨⟨k + 1, by omega, by go_num, by trivial⟩, by simp [intOf]; omega⟩
  ·have : k = s.size := by omega
   subst this
   go_wp2_with fail
   go_ret
   exact ⟨rfl, rfl⟩
theorem rdecimalForm_any (p : Nat) (w : World) (h0 : 0 < p) (hp : p < 1000000000) :
  Calls Tryz.prog 42 #[.string (itoaB p)] w fun r w' => r = .returned (.bool true) ∧ w = w' := by
 obtain ⟨z3, z4⟩ := itoaB_len hp
 have hf := itoaB_first h0
 have CD := fun w => rDigits_any (itoaB (p : Int)) w (by omega) (fun k hk => itoaB_dig hk)
 obtain ⟨s, hs⟩ : ∃ s, s = itoaB (p : Int) := ⟨_, rfl⟩
 rw [← hs] at z3 z4 hf CD ⊢
 clear hs
 have z4' : 0 < s.size := z4
 rw [byteAt_in z4'] at hf
 have d1 : (((s[0]'z4').toNat : Int) == 48) = false := by simp; omega
 have HCD := hid CD; clear CD hf
 have d2 : ((s.size : Int) == 0) = false := beq_eq_false_iff_ne.2 (by omega)
 have d3 : ¬ s = ByteArray.empty := by rintro rfl; exact absurd z4 (by decide)
 go_enter Tryz.func42, Tryz.ntmps42
 by_cases h1 : 1 < s.size
 ·go_wp2_with fail
  refine (HCD.out _).mono ?_
  rintro e w' ⟨rfl, rfl⟩
  go_wp2_with fail
  go_ret
  exact ⟨rfl, rfl⟩
 ·go_wp2_with fail
  refine (HCD.out _).mono ?_
  rintro e w' ⟨rfl, rfl⟩
  go_wp2_with fail
  go_ret
  exact ⟨rfl, rfl⟩

theorem rCheck_any (p : Nat) (w : World) (h0 : 0 < p) (hp : p < 1000000000) :
  Calls Tryz.prog 15 #[.string (itoaB p)] w fun r w' => r = .returned (.int .i64 0) ∧ Below w.heap.size w w' := by
 obtain ⟨z3, z4⟩ := itoaB_len hp
 have hf := itoaB_first h0
 have CD := fun w => rdecimalForm_any p w h0 hp
 have CS := fun w => rslash_any (itoaB (p : Int)) _ w (slashAt_none (fun j hj => itoaB_dig hj)) (by omega)
 have hx : (itoaB (p : Int)).extract 0 (itoaB (p : Int)).size = itoaB (p : Int) := by rw [ByteArray.extract_zero_size]
 obtain ⟨s, hs⟩ : ∃ s, s = itoaB (p : Int) := ⟨_, rfl⟩
 rw [← hs] at z3 z4 hf CD CS hx ⊢
 clear hs
 have z4' : 0 < s.size := z4
 rw [byteAt_in z4'] at hf
 have d1 : (((s[0]'z4').toNat : Int) == 45) = false := by simp; omega
 have HCD := hid CD; have HCS := hid CS; have HX := hid hx; clear CD CS hf hx
 go_enter Tryz.func15, Tryz.ntmps15
 go_wp2_with fail
 refine (HCS.out _).mono ?_
 rintro e w' ⟨rfl, rfl⟩
 go_wp2_with fail
 refine (HCD.out _).mono ?_
 rintro e w' ⟨rfl, rfl⟩
 go_wp2_with fail
 go_ret
 exact ⟨rfl, Below.refl _ _⟩

end Go.Proofs.YtglpfpdomnllkaaGreatDoor

namespace Go.Proofs
open Go.Shelf
def Tryz.laysM171_ren : Go.Shelf.Ren := ⟨fun | 171 => 151 | 243 => 162 | 246 => 172 | 283 => 174 | 284 => 175 | 285 => 176 | 286 => 177 | 129 => 160 | 317 => 179 | 318 => 180 | 319 => 181 | 320 => 182 | 337 => 183 | 338 => 184 | n => n, fun | 3 => 3 | 9 => 9 | 2 => 2 | 4 => 4 | 171 => 206 | 0 => 0 | 53 => 165 | 37 => 128 | 5 => 5 | 173 => 208 | 212 => 211 | 51 => 162 | 20 => 20 | 213 => 212 | 46 => 123 | 232 => 215 | 233 => 216 | n => n, fun | 17 => 5 | 18 => 6 | 19 => 7 | n => n⟩
theorem Tryz.laysM171 : Go.Proofs.LaysM.n171 Tryz.prog Tryz.laysM171_ren := {
 mixed := by kernel_rfl
 f129 := Tryz.func160.trans (congrArg some (by kernel_rfl))
 f171 := Tryz.func151.trans (congrArg some (by kernel_rfl))
 f243 := Tryz.func162.trans (congrArg some (by kernel_rfl))
 f246 := Tryz.func172.trans (congrArg some (by kernel_rfl))
 f283 := Tryz.func174.trans (congrArg some (by kernel_rfl))
 f284 := Tryz.func175.trans (congrArg some (by kernel_rfl))
 f285 := Tryz.func176.trans (congrArg some (by kernel_rfl))
 f286 := Tryz.func177.trans (congrArg some (by kernel_rfl))
 f317 := Tryz.func179.trans (congrArg some (by kernel_rfl))
 f318 := Tryz.func180.trans (congrArg some (by kernel_rfl))
 f319 := Tryz.func181.trans (congrArg some (by kernel_rfl))
 f320 := Tryz.func182.trans (congrArg some (by kernel_rfl))
 f337 := Tryz.func183.trans (congrArg some (by kernel_rfl))
 f338 := Tryz.func184.trans (congrArg some (by kernel_rfl))
 t0 := Tryz.underlying0
 a0 := Tryz.isAgg0
 z0 := Tryz.sizeOf0
 v0 := Tryz.zeroValue0
 t2 := Tryz.underlying2
 a2 := Tryz.isAgg2
 z2 := Tryz.sizeOf2
 v2 := Tryz.zeroValue2
 t3 := Tryz.underlying3
 a3 := Tryz.isAgg3
 z3 := Tryz.sizeOf3
 v3 := Tryz.zeroValue3
 t4 := Tryz.underlying4
 a4 := Tryz.isAgg4
 z4 := Tryz.sizeOf4
 v4 := Tryz.zeroValue4
 t5 := Tryz.underlying5
 a5 := Tryz.isAgg5
 z5 := Tryz.sizeOf5
 v5 := Tryz.zeroValue5
 t9 := Tryz.underlying9
 a9 := Tryz.isAgg9
 z9 := Tryz.sizeOf9
 v9 := Tryz.zeroValue9
 t20 := Tryz.underlying20
 a20 := Tryz.isAgg20
 z20 := Tryz.sizeOf20
 v20 := Tryz.zeroValue20
 t37 := Tryz.underlying128
 a37 := Tryz.isAgg128
 z37 := Tryz.sizeOf128
 v37 := Tryz.zeroValue128
 t46 := Tryz.underlying123
 a46 := Tryz.isAgg123
 z46 := Tryz.sizeOf123
 v46 := Tryz.zeroValue123
 t51 := Tryz.underlying162
 a51 := Tryz.isAgg162
 z51 := Tryz.sizeOf162
 v51 := Tryz.zeroValue162
 t53 := Tryz.underlying165
 a53 := Tryz.isAgg165
 z53 := Tryz.sizeOf165
 v53 := Tryz.zeroValue165
 t171 := Tryz.underlying206
 a171 := Tryz.isAgg206
 z171 := Tryz.sizeOf206
 v171 := Tryz.zeroValue206
 t173 := Tryz.underlying208
 a173 := Tryz.isAgg208
 z173 := Tryz.sizeOf208
 v173 := Tryz.zeroValue208
 t212 := Tryz.underlying211
 a212 := Tryz.isAgg211
 z212 := Tryz.sizeOf211
 v212 := Tryz.zeroValue211
 t213 := Tryz.underlying212
 a213 := Tryz.isAgg212
 z213 := Tryz.sizeOf212
 t232 := Tryz.underlying215
 a232 := Tryz.isAgg215
 z232 := Tryz.sizeOf215
 v232 := Tryz.zeroValue215
 t233 := Tryz.underlying216
 a233 := Tryz.isAgg216
 z233 := Tryz.sizeOf216
 v233 := Tryz.zeroValue216
 g17 := by kernel_rfl
 g18 := by kernel_rfl
 g19 := by kernel_rfl
 i0 := by kernel_rfl
 i2 := by kernel_rfl
 i3 := by kernel_rfl
 i4 := by kernel_rfl
 i5 := by kernel_rfl
 i9 := by kernel_rfl
 i20 := by kernel_rfl
 i37 := by kernel_rfl
 i46 := by kernel_rfl
 i51 := by kernel_rfl
 i53 := by kernel_rfl
 i171 := by kernel_rfl
 i173 := by kernel_rfl
 i212 := by kernel_rfl
 i232 := by kernel_rfl
 i233 := by kernel_rfl
 m17 := by kernel_rfl
 m18 := by kernel_rfl
 m19 := by kernel_rfl }
open Go.RowKit Go.Sort Go.Lib in
/-- strconv.Itoa: "Itoa is equivalent to FormatInt(int64(i), 10).": i's DECIMAL NUMERAL ('Lib.itoa': a '-' where i is negative, then the digits), FOR EVERY int. The world behind the call: the world before it, new blocks behind the heap (the library's 'var a [24]byte'), draws. (LAID: no walk: one application.) -/
theorem Tryz.strconv_Itoa (n : Int) (h0 : -9223372036854775808 ≤ n) (h1 : n ≤ 9223372036854775807) (w : World) (htab : Lib.TabIs Tryz.prog w "internal/strconv.uint64pow10" .u64 Lib.pow10Tab) :
  Calls Tryz.prog 151 #[.int .i64 n] w fun e w' => e = .returned (.string ⟨(Lib.itoa n).toArray⟩) ∧ ∃ k os, w' = grow (w.drewN k) os := Any.strconv_Itoa Tryz.laysM171 n h0 h1 w htab

end Go.Proofs

namespace Go.Proofs.YtglpfpdomnllkaaGreatDoor
open Go.RowKit
set_option maxRecDepth 100000

theorem gPow : Tryz.prog.globalNamed "internal/strconv.uint64pow10" = some 5 := by kernel_rfl
abbrev TabW (w : World) : Prop := Lib.TabIs Tryz.prog w "internal/strconv.uint64pow10" .u64 Lib.pow10Tab
theorem TabW.below {w w' : World} (h : TabW w) (hb : Below w.heap.size w w') : TabW w' := Joins.tab_stays gPow h hb (Nat.le_refl _)
theorem itoaOk_tab {w : World} (h : TabW w) (n : Int) (h0 : -9223372036854775808 ≤ n) (h1 : n ≤ 9223372036854775807) : ItoaOk w n := by
 intro w' hb
 refine (Tryz.strconv_Itoa n h0 h1 w' (h.below hb)).mono ?_
 rintro e w'' ⟨rfl, k, os, rfl⟩
 exact ⟨rfl, Lib.below_grow _ _ (Nat.le_refl _) _ _⟩
theorem gPowT : (Tryz.prog.globals[5]?).map (·.type) = some 211 := by kernel_rfl
/-- a row's condition lays the table. -/
theorem tabW_of {W : World} {l : List (String × DataW Unit)} (hL : laidMetH Tryz.prog l W) (he : (l.filter fun x => x.2.handleName?.isNone).filter (fun p => p.1 == "internal/strconv.uint64pow10") = [("internal/strconv.uint64pow10", Lib.tabData .u64 Lib.pow10Tab)]) : TabW W := by
 have h := (laidMetH_iff.1 hL).1.filter (fun p => p.1 == "internal/strconv.uint64pow10")
 rw [he] at h
 exact Lib.tabIs_of_head gPow gPowT Tryz.underlying211 Tryz.underlying165 kR kR h
end Go.Proofs.YtglpfpdomnllkaaGreatDoor

namespace Go.Proofs.YtglpfpdomnllkaaGreatDoor
open Go.RowKit
set_option maxRecDepth 100000

def isDig (b : UInt8) : Prop := 48 ≤ b.toNat ∧ b.toNat ≤ 57
instance (b : UInt8) : Decidable (isDig b) := inferInstanceAs (Decidable (_ ∧ _))
/-- a decimal number without zeros ahead. -/
def canon (l : List UInt8) : Prop := l ≠ [] ∧ (1 < l.length → l.head? ≠ some 48) ∧ ∀ b ∈ l, isDig b
instance (l : List UInt8) : Decidable (canon l) := inferInstanceAs (Decidable (_ ∧ _ ∧ _))
def both (a b : Option Nat) : Option (Int × Int) := match a, b with | some x, some y => some (x, y) | _, _ => none
end Go.Proofs.YtglpfpdomnllkaaGreatDoor

namespace Go.Proofs.YtglpfpdomnllkaaGreatDoor
open Go.RowKit
set_option maxHeartbeats 4000000
set_option maxRecDepth 100000

/-- a text's answer: the moves, the number of a word, the error. -/
def RetT (W : World) (R : List (Int × Int) × Int × Int) (r : Ending) (w' : World) : Prop :=
 ∃ a cap, r = .returned (.tuple #[.slice a R.1.length cap, .int .i64 R.2.1, .int .i64 R.2.2]) ∧ Pairs w' a cap R.1 ∧ Below W.heap.size W w'
theorem RetT.none {W w' : World} {R : List (Int × Int) × Int × Int} {r : Ending} {k e : Int} (hR : R = ([], k, e)) (h1 : r = .returned (.tuple #[.slice none 0 0, .int .i64 k, .int .i64 e])) (hb : Below W.heap.size W w') : RetT W R r w' := by
 subst hR; exact ⟨.none, 0, h1, pairs_nil _, hb⟩
end Go.Proofs.YtglpfpdomnllkaaGreatDoor

namespace Go.Proofs.YtglpfpdomnllkaaGreatDoor
open Go.RowKit
set_option maxHeartbeats 4000000
set_option maxRecDepth 100000

end Go.Proofs.YtglpfpdomnllkaaGreatDoor

namespace Go.Proofs.YtglpfpdomnllkaaGreatDoor
open Go.RowKit
set_option maxHeartbeats 4000000
set_option maxRecDepth 100000

section
variable {P : Program} {ops : Array Oper} {rest : List Oper} {a : Act} {Qa : Act → Prop} {α : Type} {c : α → Value} {sz bytes : Nat} {t e t2 e2 : TypeId} {z : Value} {ad : Option Addr} {cap : Nat} {l : List α} {k : Int} {w : World}
 {d1 d2 d3 : Tmp} {ty1 ty2 ty3 : TypeId} {p1 p2 p3 : String} {s x : Operand} {af1 af2 af3 : Array Edge} {j : Nat}
end

end Go.Proofs.YtglpfpdomnllkaaGreatDoor

namespace Go.Proofs.YtglpfpdomnllkaaGreatDoor
open Go.RowKit
set_option maxRecDepth 100000

section
open Go.ChangeMaps
variable {H : Type} {enc : TypeId × Value → H} {W : World}
end
end Go.Proofs.YtglpfpdomnllkaaGreatDoor

namespace Go.Proofs.YtglpfpdomnllkaaGreatDoor
open Go.RowKit
set_option maxHeartbeats 8000000
set_option maxRecDepth 100000

/-- a machine and an error came back. -/
def RetMac (W : World) (m : MacV) (e : Int) (r : Ending) (w' : World) : Prop := ∃ a c, r = .returned (.tuple #[mV m a c, .int .i64 e]) ∧ SL W.heap.size W w' [pOwn cInt 1 3 (.slice a m.sw.length c) m.sw]
section
variable {ops : Array Oper} {rest : List Oper} {a : Act} {Q : Exit → Act → World → Prop} {w0 w : World} {L : List Pc} {B : Nat} {ty : TypeId} {p : String} {af : Array Edge}
end
end Go.Proofs.YtglpfpdomnllkaaGreatDoor

namespace Go.Proofs.YtglpfpdomnllkaaGreatDoor
open Go.RowKit
set_option maxHeartbeats 8000000
set_option maxRecDepth 100000

theorem RetMac.none {W w' : World} {e : Int} {r : Ending} {S : SL W.heap.size W w' []} (h : r = .returned (.tuple #[.agg #[.bool false, .int .i64 0, .int .i64 0, .slice none 0 0], .int .i64 e])) : RetMac W noM e r w' :=
 ⟨.none, 0, h, (S.nilS (α := Int) (c := cInt) (sz := 1) (e := 3) cIntS)⟩

section
variable {ops : Array Oper} {rest : List Oper} {a : Act} {Q : Exit → Act → World → Prop} {w0 w : World} {L : List Pc} {B : Nat} {ty : TypeId} {p : String} {af : Array Edge}
end

end Go.Proofs.YtglpfpdomnllkaaGreatDoor

namespace Go.Proofs.YtglpfpdomnllkaaGreatDoor
open Go.RowKit
set_option maxHeartbeats 8000000
set_option maxRecDepth 100000
theorem amSame (a a2 : Option Addr) (cap cap2 n : Nat) (l : List Int) (w : World) (h : Ints w a cap l) (h2 : Ints w a2 cap2 l) (hn : l.length = n) (hs : n ≤ 1048576) : Calls Tryz.prog 22 #[.slice a n cap, .slice a2 n cap2] w fun r w' => r = .returned (.bool true) ∧ Below w.heap.size w w' := by
 subst hn
 have := SameInts_any a a2 cap cap2 l l w h h2 hs
 rw [decide_eq_true rfl] at this
 exact this
end Go.Proofs.YtglpfpdomnllkaaGreatDoor

namespace Go.Proofs.YtglpfpdomnllkaaGreatDoor
set_option maxRecDepth 100000
theorem orderM_isP {m : MacV} {l : List Int} (h : LoadOk m l) : IsP (orderM m l) := by
 have hlo := h.ok.lo
 refine ⟨fun x h0 h1 => ?_, fun x y a b c d e => ?_⟩
 ·have hm := (orderM_mem (by omega) h.rng h.nodup).1 (atD_memZ h0 h1)
  rw [orderM_length (by omega) h.rng h.nodup]
  exact hm
 ·obtain ⟨i, rfl⟩ : ∃ i : Nat, x = i := ⟨x.toNat, by omega⟩
  obtain ⟨j, rfl⟩ : ∃ j : Nat, y = j := ⟨y.toNat, by omega⟩
  have hn := orderM_nodup m l
  rcases Nat.lt_trichotomy i j with hij | hij | hij
  ·exact absurd e (by first | exact nodup_ne hn hij (by omega) | exact (nodup_ne hn hij (by omega)).symm)
  ·rw [hij]
  ·exact absurd e (by first | exact nodup_ne hn hij (by omega) | exact (nodup_ne hn hij (by omega)).symm)
end Go.Proofs.YtglpfpdomnllkaaGreatDoor

namespace Go.Proofs.YtglpfpdomnllkaaGreatDoor
set_option maxRecDepth 100000
theorem rowGo_cr : ∀ (ws st : List Int) (cr : List (Int × Int)), (rowGo st cr ws).2 = cr ++ (rowGo st [] ws).2
 | [], _, cr => by simp [rowGo]
 | x :: r, st, cr => by rw [rowGo, rowGo, rowGo_cr r, rowGo_cr r _ ([] ++ [crossOf st x])]; simp
theorem start_at {n : Nat} {j : Int} (h0 : 0 ≤ j) (h1 : j < n) : atD 0 (startL n) j = atD 0 (idL n) j + 1 := by
 rw [idL_at h0 h1]
 unfold startL atD
 rw [List.getD_eq_getElem?_getD, List.getElem?_map, List.getElem?_range (by omega)]
 simp; omega
end Go.Proofs.YtglpfpdomnllkaaGreatDoor

namespace Go.Proofs.YtglpfpdomnllkaaGreatDoor
/-- what the moves of letters between simple braids need. -/
structure Gar (S : Type) where
 N : Nat
 V : S → Prop
 B : S → Nat → Bool
 E : S → Nat → Bool
 fr : S → Nat → S
 bk : S → Nat → S
 ht : S → Nat
 K : Nat
 vfr : ∀ {b i}, V b → i < N → V (fr b i)
 vbk : ∀ {b i}, V b → i < N → V (bk b i)
 hK : ∀ {b}, V b → ht b < K
 lbk : ∀ {b i}, V b → i < N → E b i = false → ht (bk b i) < ht b
 farF : ∀ {b i j}, V b → i < N → j < N → i + 1 < j → B (fr b i) j = B b j ∧ B (fr b j) i = B b i ∧ fr (fr b i) j = fr (fr b j) i
 farB : ∀ {b i j}, V b → i < N → j < N → i + 1 < j → E (bk b i) j = E b j ∧ E (bk b j) i = E b i ∧ bk (bk b i) j = bk (bk b j) i
 nearF : ∀ {b i}, V b → i + 1 < N → B b i = true → B b (i + 1) = true → (B (fr b i) (i + 1) = true ∧ B (fr (fr b i) (i + 1)) i = true) ∧ (B (fr b (i + 1)) i = true ∧ B (fr (fr b (i + 1)) i) (i + 1) = true) ∧ fr (fr (fr b i) (i + 1)) i = fr (fr (fr b (i + 1)) i) (i + 1)
 nearB : ∀ {b i}, V b → i + 1 < N → E b i = false → E b (i + 1) = false → (E (bk b i) (i + 1) = false ∧ E (bk (bk b i) (i + 1)) i = false) ∧ (E (bk b (i + 1)) i = false ∧ E (bk (bk b (i + 1)) i) (i + 1) = false) ∧ bk (bk (bk b i) (i + 1)) i = bk (bk (bk b (i + 1)) i) (i + 1)
 mid : ∀ {b i j}, V b → i < N → j < N → B b i = true → E b j = false → E (fr b i) j = false ∧ B (bk b j) i = true ∧ fr (bk b j) i = bk (fr b i) j
section
variable {S : Type} (G : Gar S)
inductive Pull : List S → List S → Prop
 | here (a b : S) (X : List S) (i : Nat) : i < G.N → G.B b i = true → G.E a i = false → Pull (a :: b :: X) (G.bk a i :: G.fr b i :: X)
 | there (a : S) {X Y : List S} : Pull X Y → Pull (a :: X) (a :: Y)
inductive Star : List S → List S → Prop
 | refl (X : List S) : Star X X
 | step {X Y Z : List S} : Pull G X Y → Star Y Z → Star X Z
def Vs (X : List S) : Prop := ∀ x ∈ X, G.V x
def NoPull (X : List S) : Prop := ∀ Y, ¬ Pull G X Y
variable {G}
theorem Star.trans {X Y Z : List S} (h : Star G X Y) (k : Star G Y Z) : Star G X Z := by
 induction h with
 | refl => exact k
 | step p _ ih => exact .step p (ih k)
theorem Star.there (a : S) {X Y : List S} (h : Star G X Y) : Star G (a :: X) (a :: Y) := by
 induction h with
 | refl => exact .refl _
 | step p _ ih => exact .step (.there a p) ih
theorem Pull.post {X Y : List S} (h : Pull G X Y) (Z : List S) : Pull G (X ++ Z) (Y ++ Z) := by
 induction h with
 | here a b X i h1 h2 h3 => exact .here a b (X ++ Z) i h1 h2 h3
 | there a _ ih => exact .there a ih
theorem Star.post {X Y : List S} (h : Star G X Y) (Z : List S) : Star G (X ++ Z) (Y ++ Z) := by
 induction h with
 | refl => exact .refl _
 | step p _ ih => exact .step (p.post Z) ih
theorem Pull.vs {X Y : List S} (h : Pull G X Y) (hv : Vs G X) : Vs G Y := by
 induction h with
 | here a b X i h1 h2 h3 =>
  intro x hx
  rcases List.mem_cons.1 hx with rfl | hx
  ·exact G.vbk (hv a (by simp)) h1
  ·rcases List.mem_cons.1 hx with rfl | hx
   ·exact G.vfr (hv b (by simp)) h1
   ·exact hv x (by simp [hx])
 | there a p ih =>
  intro x hx
  rcases List.mem_cons.1 hx with rfl | hx
  ·exact hv x (by simp)
  ·exact ih (fun y hy => hv y (by simp [hy])) x hx
theorem Star.vs {X Y : List S} (h : Star G X Y) (hv : Vs G X) : Vs G Y := by
 induction h with
 | refl => exact hv
 | step p _ ih => exact ih (p.vs hv)
theorem Pull.length {X Y : List S} (h : Pull G X Y) : Y.length = X.length := by
 induction h with
 | here => rfl
 | there a _ ih => simp [ih]
theorem Star.length {X Y : List S} (h : Star G X Y) : Y.length = X.length := by
 induction h with
 | refl => rfl
 | step p _ ih => rw [ih, p.length]
end
end Go.Proofs.YtglpfpdomnllkaaGreatDoor

namespace Go.Proofs.YtglpfpdomnllkaaGreatDoor
/-- .. with no crossing, the half twist, complements, and the braid from the right. -/
structure GarT (S : Type) extends Gar S where
 e : S
 D : S
 fl : S → S
 co : S → S
 ve : V e
 vD : V D
 vfl : ∀ {a}, V a → V (fl a)
 vco : ∀ {a}, V a → V (co a)
 Be : ∀ {i}, i < N → B e i = false
 ED : ∀ {i}, i < N → E D i = true
 isE : ∀ {b}, V b → (∀ i, i < N → E b i = false) → b = e
 isD : ∀ {b}, V b → (∀ i, i < N → E b i = true) → b = D
 Ebk : ∀ {b i}, V b → i < N → E (bk b i) i = !E b i
 bkbk : ∀ {b i}, V b → i < N → bk (bk b i) i = b
 letB : ∀ {i}, i < N → B (fr e i) i = true
 letF : ∀ {i}, i < N → fr (fr e i) i = e
 letK : ∀ {i}, i < N → bk e i = fr e i
 flB : ∀ {a i}, V a → i < N → B (fl a) (N - 1 - i) = B a i
 flE : ∀ {a i}, V a → i < N → E (fl a) (N - 1 - i) = E a i
 flfr : ∀ {a i}, V a → i < N → fl (fr a i) = fr (fl a) (N - 1 - i)
 flbk : ∀ {a i}, V a → i < N → fl (bk a i) = bk (fl a) (N - 1 - i)
 flfl : ∀ {a}, V a → fl (fl a) = a
 fle : fl e = e
 flD : fl D = D
 coB : ∀ {a i}, V a → i < N → B (co a) i = !E a i
 cofr : ∀ {a i}, V a → i < N → fr (co a) i = co (bk a i)
 coD : co D = e
 coe : co e = D
 coco : ∀ {a}, V a → co (co a) = fl a
 frD : ∀ {i}, i < N → fr D (N - 1 - i) = bk D i
section
variable {S : Type} {T : GarT S}
theorem Pull.map {X Y : List S} (h : Pull T.toGar X Y) (hv : Vs T.toGar X) : Pull T.toGar (X.map T.fl) (Y.map T.fl) := by
 induction h with
 | here a b X i h1 h2 h3 =>
  have va := hv a (by simp)
  have vb := hv b (by simp)
  rw [List.map_cons, List.map_cons, List.map_cons, List.map_cons, T.flbk va h1, T.flfr vb h1]
  exact .here _ _ _ (T.N - 1 - i) (by omega) (by rw [T.flB vb h1]; exact h2) (by rw [T.flE va h1]; exact h3)
 | there a p ih => exact .there _ (ih fun x hx => hv x (by simp [hx]))
theorem Star.map {X Y : List S} (h : Star T.toGar X Y) (hv : Vs T.toGar X) : Star T.toGar (X.map T.fl) (Y.map T.fl) := by
 induction h with
 | refl => exact .refl _
 | step p _ ih => exact .step (p.map hv) (ih (p.vs hv))
end
end Go.Proofs.YtglpfpdomnllkaaGreatDoor

namespace Go.Proofs.YtglpfpdomnllkaaGreatDoor
set_option maxRecDepth 100000
theorem swp_atD {p : List Int} {i : Nat} (hi : i + 1 < p.length) {x : Int} (h0 : 0 ≤ x) : atD 0 (swpL p i) x = atD 0 p (sw i ((i : Int) + 1) x) := by
 have e : swpL p i = (p.set ((i : Int)).toNat (atD 0 p ((i : Int) + 1))).set ((i : Int) + 1).toNat (atD 0 p (i : Int)) := by
  have e1 : (i : Int).toNat = i := by omega
  have e2 : ((i : Int) + 1).toNat = i + 1 := by omega
  unfold swpL atD
  rw [e1, e2]
 rw [e, atD_set (by omega) (by rw [List.length_set]; omega) h0, atD_set (by omega) (by omega) h0]
 unfold sw
 by_cases a : x = (i : Int) + 1
 ·rw [if_pos a, if_neg (by omega), if_pos a]
 ·rw [if_neg a]
  by_cases b : x = (i : Int)
  ·rw [if_pos b, if_pos b]
  ·rw [if_neg b, if_neg b, if_neg a]
theorem swp_length (p : List Int) (i : Nat) : (swpL p i).length = p.length := by unfold swpL; simp
theorem swp_isP {p : List Int} (h : IsP p) {i : Nat} (hi : i + 1 < p.length) : IsP (swpL p i) := by
 have rg : ∀ x : Int, 0 ≤ x → x < p.length → 0 ≤ sw i ((i : Int) + 1) x ∧ sw i ((i : Int) + 1) x < p.length := fun x a b => sw_rng ⟨by omega, by omega⟩ ⟨by omega, by omega⟩ ⟨a, b⟩
 refine ⟨fun x x0 x1 => ?_, fun x y x0 x1 y0 y1 e => ?_⟩
 ·rw [swp_length] at x1 ⊢
  rw [swp_atD hi x0]
  exact h.rng _ (rg x x0 x1).1 (rg x x0 x1).2
 ·rw [swp_length] at x1 y1
  rw [swp_atD hi x0, swp_atD hi y0] at e
  have := congrArg (sw i ((i : Int) + 1)) (h.inj _ _ (rg x x0 x1).1 (rg x x0 x1).2 (rg y y0 y1).1 (rg y y0 y1).2 e)
  rwa [sw_sw, sw_sw] at this
theorem inv_uniq {p q : List Int} (hp : IsP p) (hq : q.length = p.length) (h : ∀ x : Int, 0 ≤ x → x < p.length → 0 ≤ atD 0 q x ∧ atD 0 q x < p.length ∧ atD 0 p (atD 0 q x) = x) : invL p = q := by
 refine ext_atD (by rw [invL_len, hq]) fun j j0 j1 => ?_
 rw [invL_len] at j1
 obtain ⟨a, b, c⟩ := h j j0 j1
 have := invL_left hp a b
 rwa [c] at this
theorem inv_inv {p : List Int} (hp : IsP p) : invL (invL p) = p :=
 inv_uniq (invL_isP hp) (by rw [invL_len]) fun x x0 x1 => by
  rw [invL_len] at x1 ⊢
  have := hp.rng x x0 x1
  exact ⟨this.1, this.2, invL_left hp x0 x1⟩
/-- a permutation of n positions. -/
def VP (n : Nat) (p : List Int) : Prop := IsP p ∧ p.length = n
def bgP (p : List Int) (i : Nat) : Bool := decide (atD 0 p ((i : Int) + 1) < atD 0 p (i : Int))
def edP (p : List Int) (i : Nat) : Bool := bgP (invL p) i
def bkP (p : List Int) (i : Nat) : List Int := invL (swpL (invL p) i)
def revP (n : Nat) : List Int := (List.range n).map fun (i : Nat) => (n : Int) - 1 - i
def flP (p : List Int) : List Int := (List.range p.length).map fun (i : Nat) => (p.length : Int) - 1 - atD 0 p ((p.length : Int) - 1 - i)
def coP (p : List Int) : List Int := (List.range p.length).map fun (i : Nat) => (p.length : Int) - 1 - atD 0 (invL p) (i : Int)
theorem map_atD {n : Nat} (f : Int → Int) {x : Int} (h0 : 0 ≤ x) (h1 : x < n) : atD 0 ((List.range n).map fun (i : Nat) => f (i : Int)) x = f x := by
 have e : (x.toNat : Int) = x := by omega
 unfold atD
 rw [List.getD_eq_getElem?_getD, List.getElem?_map, List.getElem?_range (by omega)]
 simp [e]
section
variable {n : Nat} {p : List Int} {i : Nat}
theorem VP.rg (h : VP n p) {x : Int} (h0 : 0 ≤ x) (h1 : x < n) : 0 ≤ atD 0 p x ∧ atD 0 p x < n := by have := h.1.rng x h0 (by rw [h.2]; exact h1); rwa [h.2] at this
theorem VP.pi (h : VP n p) {x y : Int} (h0 : 0 ≤ x) (h1 : x < n) (k0 : 0 ≤ y) (k1 : y < n) (e : atD 0 p x = atD 0 p y) : x = y := h.1.inj x y h0 (by rw [h.2]; exact h1) k0 (by rw [h.2]; exact k1) e
theorem VP.inv (h : VP n p) : VP n (invL p) := ⟨invL_isP h.1, by rw [invL_len, h.2]⟩
theorem VP.qp (h : VP n p) {x : Int} (h0 : 0 ≤ x) (h1 : x < n) : atD 0 (invL p) (atD 0 p x) = x := invL_left h.1 h0 (by rw [h.2]; exact h1)
theorem VP.pq (h : VP n p) {x : Int} (h0 : 0 ≤ x) (h1 : x < n) : atD 0 p (atD 0 (invL p) x) = x := invL_right h.1 h0 (by rw [h.2]; exact h1)
theorem VP.ext (h : VP n p) {q : List Int} (k : q.length = n) (e : ∀ x : Int, 0 ≤ x → x < n → atD 0 p x = atD 0 q x) : p = q := ext_atD (by rw [h.2, k]) fun j j0 j1 => e j j0 (by rw [← h.2]; exact j1)
theorem VP.fr (h : VP n p) (hi : i + 1 < n) : VP n (swpL p i) := ⟨swp_isP h.1 (by rw [h.2]; exact hi), by rw [swp_length, h.2]⟩
theorem VP.bk (h : VP n p) (hi : i + 1 < n) : VP n (bkP p i) := (h.inv.fr hi).inv
theorem VP.fr_at (h : VP n p) (hi : i + 1 < n) {x : Int} (h0 : 0 ≤ x) : atD 0 (swpL p i) x = atD 0 p (sw i ((i : Int) + 1) x) := swp_atD (by rw [h.2]; exact hi) h0
theorem VP.sw_in (hi : i + 1 < n) {x : Int} (h0 : 0 ≤ x) (h1 : x < n) : 0 ≤ sw i ((i : Int) + 1) x ∧ sw i ((i : Int) + 1) x < n := sw_rng ⟨by omega, by omega⟩ ⟨by omega, by omega⟩ ⟨h0, h1⟩
theorem VP.fr_inv (h : VP n p) (hi : i + 1 < n) {y : Int} (h0 : 0 ≤ y) (h1 : y < n) : atD 0 (invL (swpL p i)) y = sw i ((i : Int) + 1) (atD 0 (invL p) y) := by
 have hq := h.inv.rg h0 h1
 have hs := VP.sw_in hi hq.1 hq.2
 have e := (h.fr hi).qp hs.1 hs.2
 rwa [h.fr_at hi hs.1, sw_sw, h.pq h0 h1] at e
theorem VP.bk_inv (h : VP n p) (hi : i + 1 < n) : invL (bkP p i) = swpL (invL p) i := inv_inv (h.inv.fr hi).1
theorem VP.bk_at (h : VP n p) (hi : i + 1 < n) {x : Int} (h0 : 0 ≤ x) (h1 : x < n) : atD 0 (bkP p i) x = sw i ((i : Int) + 1) (atD 0 p x) := by
 unfold bkP
 rw [h.inv.fr_inv hi h0 h1, inv_inv h.1]
theorem VP.bg_fr (h : VP n p) (hi : i + 1 < n) {j : Nat} : bgP (swpL p i) j = decide (atD 0 p (sw i ((i : Int) + 1) ((j : Int) + 1)) < atD 0 p (sw i ((i : Int) + 1) j)) := by
 unfold bgP
 rw [h.fr_at hi (by omega), h.fr_at hi (by omega)]
theorem VP.bg_bk (h : VP n p) (hi : i + 1 < n) {j : Nat} (hj : j + 1 < n) : bgP (bkP p i) j = decide (sw i ((i : Int) + 1) (atD 0 p ((j : Int) + 1)) < sw i ((i : Int) + 1) (atD 0 p j)) := by
 unfold bgP
 rw [h.bk_at hi (by omega) (by omega), h.bk_at hi (by omega) (by omega)]
theorem VP.ed_fr (h : VP n p) (hi : i + 1 < n) {j : Nat} (hj : j + 1 < n) : edP (swpL p i) j = decide (sw i ((i : Int) + 1) (atD 0 (invL p) ((j : Int) + 1)) < sw i ((i : Int) + 1) (atD 0 (invL p) j)) := by
 unfold edP bgP
 rw [h.fr_inv hi (by omega) (by omega), h.fr_inv hi (by omega) (by omega)]
theorem VP.ed_bk (h : VP n p) (hi : i + 1 < n) {j : Nat} : edP (bkP p i) j = decide (atD 0 (invL p) (sw i ((i : Int) + 1) ((j : Int) + 1)) < atD 0 (invL p) (sw i ((i : Int) + 1) j)) := by
 unfold edP
 rw [h.bk_inv hi, h.inv.bg_fr hi]
end
theorem sw_out {i x : Int} (h : x ≠ i) (k : x ≠ i + 1) : sw i (i + 1) x = x := by unfold sw; rw [if_neg h, if_neg k]
theorem sw_l (i : Int) : sw i (i + 1) i = i + 1 := by unfold sw; rw [if_pos rfl]
theorem sw_r (i : Int) : sw i (i + 1) (i + 1) = i := by unfold sw; rw [if_neg (by omega), if_pos rfl]
theorem sw_far {i j : Int} (h : i + 1 < j) (x : Int) : sw i (i + 1) (sw j (j + 1) x) = sw j (j + 1) (sw i (i + 1) x) := by unfold sw; repeat' split <;> omega
theorem sw_near (i x : Int) : sw i (i + 1) (sw (i + 1) (i + 1 + 1) (sw i (i + 1) x)) = sw (i + 1) (i + 1 + 1) (sw i (i + 1) (sw (i + 1) (i + 1 + 1) x)) := by unfold sw; repeat' split <;> omega
theorem sw_lt {i a b : Int} (h : a < b) (k : ¬ (a = i ∧ b = i + 1)) : sw i (i + 1) a < sw i (i + 1) b := by unfold sw; repeat' split <;> omega
theorem sw_rev {n i j x : Int} (h : j = n - 2 - i) : n - 1 - sw j (j + 1) x = sw i (i + 1) (n - 1 - x) := by unfold sw; repeat' split <;> omega
def sumK : Nat → List Int → Int
 | _, [] => 0
 | k, a :: l => k * a + sumK (k + 1) l
theorem sumK_swp : ∀ (A C : List Int) (k : Nat) (x y : Int), sumK k (A ++ y :: x :: C) = sumK k (A ++ x :: y :: C) + (x - y)
 | [], C, k, x, y => by
   simp only [List.nil_append, sumK, Int.natCast_add, Int.natCast_one, Int.add_mul, Int.one_mul]
   omega
 | a :: A, C, k, x, y => by
   simp only [List.cons_append, sumK]
   rw [sumK_swp A C (k + 1) x y]
   omega
theorem sumK_lt {n : Nat} : ∀ (l : List Int) (k : Nat), (∀ x ∈ l, 0 ≤ x ∧ x < n) → k + l.length ≤ n → 0 ≤ sumK k l ∧ sumK k l ≤ ((l.length * (n * n) : Nat) : Int)
 | [], k, _, _ => by simp [sumK]
 | a :: l, k, h, hk => by
   have h1 := sumK_lt l (k + 1) (fun x hx => h x (by simp [hx])) (by simp only [List.length_cons] at hk; omega)
   obtain ⟨a0, a1⟩ := h a (by simp)
   have h2 : 0 ≤ (k : Int) * a := Int.mul_nonneg (by omega) a0
   have h3 : (k : Int) * a ≤ ((n * n : Nat) : Int) := by
     rw [Int.natCast_mul]
     exact Int.mul_le_mul (by simp only [List.length_cons] at hk; omega) (by omega) a0 (by omega)
   simp only [sumK, List.length_cons, Nat.add_mul, Nat.one_mul, Int.natCast_add]
   omega
theorem swp_split {q : List Int} {i : Nat} (hi : i + 1 < q.length) : ∃ A C x y, A.length = i ∧ q = A ++ x :: y :: C ∧ swpL q i = A ++ y :: x :: C ∧ atD 0 q (i : Int) = x ∧ atD 0 q ((i : Int) + 1) = y := by
 refine ⟨q.take i, q.drop (i + 2), q[i], q[i + 1], by simp; omega, ?_, ?_, ?_, ?_⟩
 ·rw [List.getElem_cons_drop, List.getElem_cons_drop, List.take_append_drop]
 ·have e : q = q.take i ++ q[i] :: q[i + 1] :: q.drop (i + 2) := by rw [List.getElem_cons_drop, List.getElem_cons_drop, List.take_append_drop]
  have h := swpL_at (q.take i) (q.drop (i + 2)) q[i] q[i + 1]
  rw [← e, show (q.take i).length = i by simp; omega] at h
  exact h
 ·unfold atD
  rw [List.getD_eq_getElem?_getD, show (i : Int).toNat = i by omega, List.getElem?_eq_getElem (by omega)]; rfl
 ·unfold atD
  rw [List.getD_eq_getElem?_getD, show ((i : Int) + 1).toNat = i + 1 by omega, List.getElem?_eq_getElem (by omega)]; rfl
def htP (p : List Int) : Nat := (sumK 0 (invL p)).toNat
theorem VP.mem {n : Nat} {p : List Int} (h : VP n p) : ∀ x ∈ p, 0 ≤ x ∧ x < n := by
 intro x hx
 obtain ⟨k, hk, rfl⟩ := List.getElem_of_mem hx
 have := h.rg (x := (k : Int)) (by omega) (by have := h.2; omega)
 unfold atD at this
 rwa [List.getD_eq_getElem?_getD, show (k : Int).toNat = k by omega, List.getElem?_eq_getElem hk] at this
theorem ht_lt {n : Nat} {p : List Int} (h : VP n p) : htP p < n * (n * n) + 1 := by
 have := sumK_lt (n := n) (invL p) 0 h.inv.mem (by rw [h.inv.2]; omega)
 rw [h.inv.2] at this
 unfold htP
 omega
theorem ht_bk {n : Nat} {p : List Int} {i : Nat} (h : VP n p) (hi : i + 1 < n) (he : edP p i = false) : htP (bkP p i) < htP p := by
 have hn := h.inv
 obtain ⟨A, C, x, y, hA, e1, e2, hx, hy⟩ := swp_split (q := invL p) (i := i) (by rw [hn.2]; exact hi)
 have hs := sumK_swp A C 0 x y
 rw [← e1, ← e2] at hs
 unfold edP bgP at he
 have he := of_decide_eq_false he
 rw [hx, hy] at he
 have hne : x ≠ y := fun e => by
  have := hn.pi (x := (i : Int)) (y := (i : Int) + 1) (by omega) (by omega) (by omega) (by omega) (by rw [hx, hy, e])
  omega
 have h0 := sumK_lt (n := n) (swpL (invL p) i) 0 (hn.fr hi).mem (by rw [(hn.fr hi).2]; omega)
 have h1 := sumK_lt (n := n) (invL p) 0 hn.mem (by rw [hn.2]; omega)
 unfold htP
 rw [h.bk_inv hi]
 omega
end Go.Proofs.YtglpfpdomnllkaaGreatDoor
