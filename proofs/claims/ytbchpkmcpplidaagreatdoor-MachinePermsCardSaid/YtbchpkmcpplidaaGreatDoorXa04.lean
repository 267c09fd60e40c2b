/- Contracts and plain facts that the claim uses (MaA OpM NrP AlA NrM KnM NrT CiB Lib2). Conditions: as each one states. -/
import Derived.Deep.LoopGhost
import Derived.Shelf.Strconv.Itoa3
import Derived.Shelf.LaysM
import Derived.Test.YtbchpkmcpplidaaGreatDoorXa01
import Derived.Test.YtbchpkmcpplidaaGreatDoorXa02
import Derived.Test.YtbchpkmcpplidaaGreatDoorXa03
set_option linter.all false

namespace Go.Proofs.YtbchpkmcpplidaaGreatDoor
open Go.RowKit
set_option maxHeartbeats 2000000
set_option maxRecDepth 100000

abbrev mC (m : MacV) (ad : Option Addr) (cap : Nat) : Array Value := #[.bool m.ring, .int .i64 m.gears, .int .i64 m.turn, .slice ad m.sw.length cap]
abbrev mV (m : MacV) (ad : Option Addr) (cap : Nat) : Value := .agg #[.bool m.ring, .int .i64 m.gears, .int .i64 m.turn, .slice ad m.sw.length cap]
theorem A_mach : Aggr Tryz.prog 24 := ⟨_, Tryz.underlying24, rfl⟩
theorem F_boolM : Flat Tryz.prog 4 := ⟨_, Tryz.underlying4, rfl⟩
theorem F_sliceM : Flat Tryz.prog 22 := ⟨_, Tryz.underlying22, rfl⟩
theorem A_two : Aggr Tryz.prog 161 := ⟨_, Tryz.underlying161, rfl⟩

theorem mwhen_any (b : Bool) (e : Int) (w : World) :
  Calls Tryz.prog 59 #[.bool b, .int .i64 e] w fun r w' => r = .returned (.int .i64 (if b then e else 0)) ∧ w = w' := by
 cases b
 ·go_enter Tryz.func59, Tryz.ntmps59
  go_wp2
  go_ret
  exact ⟨rfl, rfl⟩
 ·go_enter Tryz.func59, Tryz.ntmps59
  go_wp2
  go_ret
  exact ⟨rfl, rfl⟩
theorem mfirst_any (a : Option Addr) (cap : Nat) (l : List Int) (w : World) (h : Ints w a cap l) :
  Calls Tryz.prog 58 #[.slice a l.length cap] w fun r w' => r = .returned (.int .i64 (firstE l)) ∧ w = w' := by
 have hcap := h.le
 have hm := h.max
 go_enter Tryz.func58, Tryz.ntmps58
 go_wp2
 go_loop [7] (fun i => ∃ k : Nat, k ≤ l.length ∧ i = .int .i64 k ∧ firstE (l.drop k) = firstE l) (fun i => l.length - (intOf i).toNat)
 case atStart => exact ⟨0, by omega, rfl, by simp⟩
 case round =>
  obtain ⟨k, hk, rfl, hf⟩ := hrel
  by_cases hlt : k < l.length
  ·have hs := firstE_drop l k hlt
   have HF := hid hf; clear hf
   have HS := hid hs; clear hs
   go_wp2_with (with_reducible refine wpList_idx _ 0 E_errs F_err cInt1 (by with_unfolding_all rfl) (by with_unfolding_all rfl) (h) (by first | omega | (simp; done)) (by first | omega | (simp; done)) (fun _ => by with_unfolding_all rfl) (fun _ => ?_))
   ·go_ret
    have h1 : (atD 0 l k != 0) = true := by assumption
    refine ⟨?_, rfl⟩
    have := HS.out; rw [HF.out, h1, if_pos rfl] at this; rw [this]; rfl
   ·go_round
    case rel =>
     have h1 : (atD 0 l k != 0) = false := by assumption
     refine ⟨k + 1, by omega, by go_num, ?_⟩
     have := HS.out; rw [HF.out, h1] at this; exact this.symm
    case measure => simp [intOf]; omega
  ·have : k = l.length := by omega
   subst this
   rw [firstE_end] at hf
   have HF := hid hf; clear hf
   go_wp2
   go_ret
   exact ⟨by rw [← HF.out]; rfl, rfl⟩
theorem btoi_any (b : Bool) (w : World) :
  Calls Tryz.prog 166 #[.bool b] w fun r w' => r = .returned (.int .i64 (if b then 1 else 0)) ∧ w = w' := by
 cases b
 ·go_enter Tryz.func166, Tryz.ntmps166
  go_wp2
  go_ret
  exact ⟨rfl, rfl⟩
 ·go_enter Tryz.func166, Tryz.ntmps166
  go_wp2
  go_ret
  exact ⟨rfl, rfl⟩
theorem slots_any (m : MacV) (ad : Option Addr) (cap : Nat) (w : World) (h0 : 0 ≤ m.gears) (h1 : m.gears ≤ 16) :
  Calls Tryz.prog 62 #[mV m ad cap] w fun r w' => r = .returned (.int .i64 (4 * m.gears)) ∧ Below w.heap.size w w' := by
 go_enter Tryz.func62, Tryz.ntmps62
 go_wp2_with fail
 go_ret
 exact ⟨rfl, bal (Below.refl _ _) _⟩
theorem forwards_any (m : MacV) (ad : Option Addr) (cap : Nat) (g : Int) (w : World) (h0 : 0 ≤ g) (h1 : g ≤ 1048576) :
  Calls Tryz.prog 108 #[mV m ad cap, .int .i64 g] w fun r w' => r = .returned (.bool (fwdM m g)) ∧ Below w.heap.size w w' := by
 obtain ⟨q, hq⟩ : ∃ q, q = g % 2 := ⟨_, rfl⟩
 have htm : g.tmod 2 = q := by rw [hq, Int.tmod_eq_emod_of_nonneg h0]
 have hf : fwdM m g = ((m.turn == 1) == (q == 0)) := by unfold fwdM; rw [hq]
 have hq2 : 0 ≤ q ∧ q < 2 := by omega
 have HF := hid hf
 clear hf hq
 go_enter Tryz.func108, Tryz.ntmps108
 go_wp2_with fail
 go_ret
 exact ⟨by rw [HF.out]; rfl, bal (Below.refl _ _) _⟩
theorem shared_any (m : MacV) (ad : Option Addr) (cap : Nat) (p : Int) (w : World) :
  Calls Tryz.prog 60 #[mV m ad cap, .int .i64 p] w fun r w' => r = .returned (.bool (sharedM m p)) ∧ Below w.heap.size w w' := by
 by_cases h0 : 0 ≤ p
 ·by_cases h1 : p < m.gears
  ·cases hr : m.ring
   ·have hs : sharedM m p = decide (0 < p) := by unfold sharedM; simp [h0, h1, hr]
    have HS := hid hs; clear hs
    go_enter Tryz.func60, Tryz.ntmps60
    go_wp2_with fail
    go_ret
    exact ⟨by rw [HS.out]; rfl, bal (Below.refl _ _) _⟩
   ·have hs : sharedM m p = true := by unfold sharedM; simp [h0, h1, hr]
    have HS := hid hs; clear hs
    go_enter Tryz.func60, Tryz.ntmps60
    go_wp2_with fail
    go_ret
    exact ⟨by rw [HS.out]; rfl, bal (Below.refl _ _) _⟩
  ·have hs : sharedM m p = false := by unfold sharedM; simp [h1]
   have HS := hid hs; clear hs
   go_enter Tryz.func60, Tryz.ntmps60
   go_wp2_with fail
   go_ret
   exact ⟨by rw [HS.out]; rfl, bal (Below.refl _ _) _⟩
 ·have hs : sharedM m p = false := by unfold sharedM; simp [h0]
  have HS := hid hs; clear hs
  go_enter Tryz.func60, Tryz.ntmps60
  go_wp2_with fail
  go_ret
  exact ⟨by rw [HS.out]; rfl, bal (Below.refl _ _) _⟩
theorem place_any (m : MacV) (ad : Option Addr) (cap : Nat) (s : Int) (w : World) (hg : m.gears ≤ 16) (h0 : 0 ≤ s) (h1 : s < 4 * m.gears) :
  Calls Tryz.prog 137 #[mV m ad cap, .int .i64 s] w fun r w' => r = .returned (.int .i64 (placeM m s)) ∧ Below w.heap.size w w' := by
 obtain ⟨g, hgq⟩ : ∃ g, g = s / 4 := ⟨_, rfl⟩
 obtain ⟨q, hq⟩ : ∃ q, q = s % 4 := ⟨_, rfl⟩
 have htd : s.tdiv 4 = g := by rw [hgq, Int.tdiv_eq_ediv_of_nonneg h0]
 have htm : s.tmod 4 = q := by rw [hq, Int.tmod_eq_emod_of_nonneg h0]
 have hp := place_prog h0 h1
 have hpl : placeM m s = if q = 0 then g else if q = 2 then (if m.ring = true ∧ g + 1 = m.gears then 0 else g + 1) else -1 := by unfold placeM; rw [hq, hgq]
 rw [← hgq] at hp
 have hq4 : q = 0 ∨ q = 1 ∨ q = 2 ∨ q = 3 := by omega
 have hg0 : 0 ≤ g ∧ g < m.gears := by omega
 rcases hq4 with rfl | rfl | rfl | rfl
 ·rw [if_pos rfl] at hpl
  have HP := hid hpl
  clear hpl hp hq hgq
  go_enter Tryz.func137, Tryz.ntmps137
  go_wp2_with fail
  go_ret
  exact ⟨by rw [HP.out]; rfl, bal (Below.refl _ _) _⟩
 ·rw [if_neg (by decide), if_neg (by decide)] at hpl
  have HP := hid hpl
  clear hpl hp hq hgq
  go_enter Tryz.func137, Tryz.ntmps137
  go_wp2_with fail
  go_ret
  exact ⟨by rw [HP.out]; rfl, bal (Below.refl _ _) _⟩
 ·rw [if_neg (by decide), if_pos rfl, ← hp] at hpl
  obtain ⟨P, hP⟩ : ∃ P, P = placeM m s := ⟨_, rfl⟩
  rw [← hP] at hpl ⊢
  have hPb : 0 ≤ P ∧ P ≤ 64 := by
   rw [hpl]
   have a := Int.emod_nonneg (g + 1) (b := m.gears + (if m.ring = true then 0 else 1)) (by split <;> omega)
   have b := Int.emod_lt_of_pos (g + 1) (b := m.gears + (if m.ring = true then 0 else 1)) (by split <;> omega)
   refine ⟨a, ?_⟩
   split at b <;> omega
  cases hr : m.ring
  ·rw [hr] at hpl
   simp only [Bool.false_eq_true, if_false] at hpl
   have hmod : (g + 1).tmod (m.gears + 1) = P := by rw [hpl, Int.tmod_eq_emod_of_nonneg (by omega)]
   have hnz : ¬ m.gears + 1 = 0 := by omega
   have hw1 : IntKind.i64.wrap g = g := IntWalk.i64_in _ (by omega)
   have hw2 : IntKind.i64.wrap (g + 1) = g + 1 := IntWalk.i64_in _ (by omega)
   have hw3 : IntKind.i64.wrap (m.gears + 1) = m.gears + 1 := IntWalk.i64_in _ (by omega)
   have hw : IntKind.i64.wrap P = P := IntWalk.i64_in _ (by omega)
   clear hpl hp hq hgq hP hPb
   go_enter Tryz.func137, Tryz.ntmps137
   go_wp2_with fail
   have hS := (SL.nil w).box (.cells #[.bool false, .int .i64 m.gears, .int .i64 m.turn, .slice ad m.sw.length cap] 24)
   have q1 := (hS.blk 0 rfl).1
   refine wp_region_q (by kernel_rfl) (by kernel_rfl) ?_
   repeat (first | ((with_reducible refine wpB_load F_boolM (by with_unfolding_all rfl) (by with_unfolding_all rfl) q1 (by with_unfolding_all rfl) ?_); (try simp only [Act.put, pA, pB, pC])) | ((refine wpB_call (.int .i64 1) (by with_unfolding_all rfl) (fun w' => ?_) (fun w' hw' => calls_below (btoi_any true w')) ?_); (focus (go_simp; done)); (try simp only [Act.put, pA, pB, pC])) |  ((with_reducible refine wpB_load (by first | exact F_int | exact F_u64s) (by with_unfolding_all rfl) (by with_unfolding_all rfl) (by assumption) (by with_unfolding_all rfl) ?_); (try simp only [Act.put, pA, pB, pC])) | ((refine wpQ_oneG ?_ (by with_unfolding_all rfl) (fun w' => ?_) ?_); rotate_left; (go_simp; rfl); (try simp only [Act.put, pA, pB, pC])))
   refine wpQuiet_nil ?_
   intro w1 hb1
   go_wp2_with fail
   go_ret
   exact ⟨rfl, bnext hS.b hb1⟩
  ·rw [hr] at hpl
   simp only [if_true, Int.add_zero] at hpl
   have hmod : (g + 1).tmod (m.gears) = P := by rw [hpl, Int.tmod_eq_emod_of_nonneg (by omega)]
   have hnz : ¬ m.gears = 0 := by omega
   have hw1 : IntKind.i64.wrap g = g := IntWalk.i64_in _ (by omega)
   have hw2 : IntKind.i64.wrap (g + 1) = g + 1 := IntWalk.i64_in _ (by omega)
   have hw3 : IntKind.i64.wrap m.gears = m.gears := IntWalk.i64_in _ (by omega)
   have hw : IntKind.i64.wrap P = P := IntWalk.i64_in _ (by omega)
   clear hpl hp hq hgq hP hPb
   go_enter Tryz.func137, Tryz.ntmps137
   go_wp2_with fail
   have hS := (SL.nil w).box (.cells #[.bool true, .int .i64 m.gears, .int .i64 m.turn, .slice ad m.sw.length cap] 24)
   have q1 := (hS.blk 0 rfl).1
   refine wp_region_q (by kernel_rfl) (by kernel_rfl) ?_
   repeat (first | ((with_reducible refine wpB_load F_boolM (by with_unfolding_all rfl) (by with_unfolding_all rfl) q1 (by with_unfolding_all rfl) ?_); (try simp only [Act.put, pA, pB, pC])) | ((refine wpB_call (.int .i64 0) (by with_unfolding_all rfl) (fun w' => ?_) (fun w' hw' => calls_below (btoi_any false w')) ?_); (focus (go_simp; done)); (try simp only [Act.put, pA, pB, pC])) |  ((with_reducible refine wpB_load (by first | exact F_int | exact F_u64s) (by with_unfolding_all rfl) (by with_unfolding_all rfl) (by assumption) (by with_unfolding_all rfl) ?_); (try simp only [Act.put, pA, pB, pC])) | ((refine wpQ_oneG ?_ (by with_unfolding_all rfl) (fun w' => ?_) ?_); rotate_left; (go_simp; rfl); (try simp only [Act.put, pA, pB, pC])))
   refine wpQuiet_nil ?_
   intro w1 hb1
   go_wp2_with fail
   go_ret
   exact ⟨rfl, bnext hS.b hb1⟩
 ·rw [if_neg (by decide), if_neg (by decide)] at hpl
  have HP := hid hpl
  clear hpl hp hq hgq
  go_enter Tryz.func137, Tryz.ntmps137
  go_wp2_with fail
  go_ret
  exact ⟨by rw [HP.out]; rfl, bal (Below.refl _ _) _⟩
end Go.Proofs.YtbchpkmcpplidaaGreatDoor

namespace Go.Proofs.YtbchpkmcpplidaaGreatDoor
open Go.RowKit Go.ChangeShapes Go.WideShapes Go.ChangeAt Go.Joins Go.Deep
set_option maxRecDepth 100000
section
variable {H : Type} {enc : TypeId × Value → H} {W : World}
theorem open_machA {r : Reach} {b0 : Nat} {v : Value} {d : DataW H} {ps : List MemPlace} (hval : Value.okWide Tryz.prog W r b0 24 v) (h : DataW.Trod enc Tryz.prog W 0 (fun _ => true) true 24 v d ps) :
  ∃ (m : MacV) (ad : Option Addr) (cap : Nat), v = mV m ad cap ∧ Ints W ad cap m.sw ∧ InI m.gears ∧ InI m.turn ∧ ∀ x ∈ m.sw, InI x := by
 obtain ⟨v0, v1, v2, v3, y0, y1, y2, y3, n, rfl, _, _, k0, k1, k2, k3⟩ := open_agg4 Tryz.underlying24 (by kernel_rfl) rfl hval h
 obtain ⟨b, e0, _⟩ := DataW.trod_bool Tryz.underlying4 k0
 obtain ⟨x, e1, _, w1⟩ := DataW.trod_int Tryz.underlying3 k1
 obtain ⟨y, e2, _, w2⟩ := DataW.trod_int Tryz.underlying3 k2
 cases e0; cases e1; cases e2
 rcases open_ints Tryz.underlying22 Tryz.underlying3 cellsInt k3 with ⟨hcs, _⟩ | ⟨a, len', cap', zs, hcs, _, hl, hm, hz, _, hcell, hwz⟩
 ·cases hcs
  exact ⟨⟨b, x, y, []⟩, none, 0, rfl, ints_nil W, inI_wf w1, inI_wf w2, fun x hx => by cases hx⟩
 ·cases hcs
  simp only [if_true] at hz
  have hlen : (zs.take len').length = len' := by simp; omega
  refine ⟨⟨b, x, y, zs.take len'⟩, some a, cap', ?_, ints_of_cells hl hm (by omega) hcell, inI_wf w1, inI_wf w2, fun x hx => ?_⟩
  ·show _ = Value.agg #[_, _, _, .slice _ (zs.take len').length _]
   rw [hlen]
  ·exact inI_wf (hwz x (List.mem_of_mem_take hx))
end
end Go.Proofs.YtbchpkmcpplidaaGreatDoor

namespace Go.Proofs.YtbchpkmcpplidaaGreatDoor
open Go.RowKit
set_option maxHeartbeats 1000000
set_option maxRecDepth 100000

theorem decD_small {u : Nat} (h : u < 10) : Lib.decDigits u = [UInt8.ofNat (48 + u)] := by rw [Lib.decDigits, dif_pos h]
theorem decD_big {u : Nat} (h : ¬ u < 10) : Lib.decDigits u = Lib.decDigits (u / 10) ++ [UInt8.ofNat (48 + u % 10)] := by rw [Lib.decDigits, dif_neg h]
theorem itoaB_nat (u : Nat) : itoaB (u : Int) = ⟨(Lib.decDigits u).toArray⟩ := by unfold itoaB; rw [Lib.itoa_nonneg]
theorem digB {d : Nat} (h : d < 10) : (UInt8.ofNat (48 + d)).toNat = 48 + d := by
 rw [UInt8.toNat_ofNat']; omega
theorem decD_dig (u : Nat) : ∀ b ∈ Lib.decDigits u, 48 ≤ b.toNat ∧ b.toNat ≤ 57 := by
 induction u using Nat.strongRecOn with
 | _ u ih =>
  by_cases h : u < 10
  ·rw [decD_small h]; intro b hb
   simp only [List.mem_singleton] at hb
   subst hb; rw [digB h]; omega
  ·rw [decD_big h]; intro b hb
   rcases List.mem_append.1 hb with hb | hb
   ·exact ih (u / 10) (by omega) b hb
   ·simp only [List.mem_singleton] at hb
    subst hb; rw [digB (Nat.mod_lt _ (by decide))]; omega
theorem decD_pos (u : Nat) : 0 < (Lib.decDigits u).length := by
 by_cases h : u < 10
 ·rw [decD_small h]; simp
 ·rw [decD_big h]; simp
theorem decD_len : ∀ (k u : Nat), u < 10 ^ (k + 1) → (Lib.decDigits u).length ≤ k + 1
 | 0, u, h => by rw [decD_small (by simpa using h)]; simp
 | k + 1, u, h => by
   by_cases h1 : u < 10
   · rw [decD_small h1]; simp
   · rw [decD_big h1]
     have := decD_len k (u / 10) (by rw [Nat.pow_succ] at h; omega)
     simp; omega
/-- the number that digits give. -/
def valL (l : List UInt8) : Nat := l.foldl (fun n b => 10 * n + (b.toNat - 48)) 0
theorem valL_snoc (l : List UInt8) (b : UInt8) : valL (l ++ [b]) = 10 * valL l + (b.toNat - 48) := by simp [valL]
theorem valL_dec (u : Nat) : valL (Lib.decDigits u) = u := by
 induction u using Nat.strongRecOn with
 | _ u ih =>
  by_cases h : u < 10
  ·rw [decD_small h]
   show 10 * 0 + ((UInt8.ofNat (48 + u)).toNat - 48) = u
   rw [digB h]; omega
  ·rw [decD_big h, valL_snoc, ih (u / 10) (by omega), digB (Nat.mod_lt _ (by decide))]; omega
theorem valL_take {l : List UInt8} {k : Nat} (h : k < l.length) : valL (l.take (k + 1)) = 10 * valL (l.take k) + (l[k].toNat - 48) := by
 rw [List.take_succ_eq_append_getElem h, valL_snoc]
theorem valL_lt (l : List UInt8) (h : ∀ b ∈ l, 48 ≤ b.toNat ∧ b.toNat ≤ 57) : ∀ k, k ≤ l.length → valL (l.take k) < 10 ^ k
 | 0, _ => by simp [valL]
 | k + 1, hk => by
   rw [valL_take (by omega), Nat.pow_succ]
   have h1 := valL_lt l h k (by omega)
   have h2 := h l[k] (List.getElem_mem _)
   omega

def bT (l : List UInt8) : ByteArray := ⟨l.toArray⟩
theorem bT_size (l : List UInt8) : (bT l).size = l.length := rfl
theorem bT_app (l m : List UInt8) : bT l ++ bT m = bT (l ++ m) := by unfold bT; rw [ByteArray.mk_append_mk]; try simp
theorem bT_at {l : List UInt8} {k : Nat} (h : k < l.length) : byteAt (bT l) k = (l[k].toNat : Int) := by
 rw [byteAt_in (by rw [bT_size]; exact h), ByteArray.getElem_eq_getElem_data]
 simp [bT]
theorem bT_extract (l : List UInt8) (i j : Nat) : (bT l).extract i j = bT ((l.take j).drop i) := by
 unfold bT
 apply ByteArray.ext
 rw [ByteArray.data_extract]
 apply Array.ext'
 simp only [Array.toList_extract, List.extract_eq_take_drop]
 rw [List.drop_take]
theorem itoaB_bT (u : Nat) : itoaB (u : Int) = bT (Lib.decDigits u) := itoaB_nat u

def dig10 : ByteArray := ⟨#[48, 49, 50, 51, 52, 53, 54, 55, 56, 57]⟩
theorem dig10_at : ∀ d : Nat, d < 10 → dig10.extract d (d + 1) = bT [UInt8.ofNat (48 + d)] := by decide

/-- where a decimal text stands while it is made from behind. -/
def decInv (N c : Nat) (t : List UInt8) : Prop := (c = 0 ∧ t ≠ [] ∧ t = Lib.decDigits N) ∨ ((0 < c ∨ t = []) ∧ Lib.decDigits N = Lib.decDigits c ++ t)
theorem decInv_start (N : Nat) : decInv N N [] := .inr ⟨.inr rfl, by simp⟩
theorem decInv_len {N c : Nat} {t : List UInt8} (h : decInv N c t) : t.length ≤ (Lib.decDigits N).length := by
 rcases h with ⟨_, _, rfl⟩ | ⟨_, e⟩
 ·exact Nat.le_refl _
 ·rw [e]; simp
theorem decInv_step {N c : Nat} {t : List UInt8} (h : decInv N c t) (hc : 0 < c ∨ t = []) : decInv N (c / 10) (UInt8.ofNat (48 + c % 10) :: t) := by
 have e : Lib.decDigits N = Lib.decDigits c ++ t := by
  rcases h with ⟨a, b, _⟩ | ⟨_, e⟩
  ·rcases hc with h1 | h1
   ·omega
   ·exact absurd h1 b
  ·exact e
 by_cases h1 : c < 10
 ·refine .inl ⟨by omega, by simp, ?_⟩
  rw [e, decD_small h1, Nat.mod_eq_of_lt h1]; rfl
 ·refine .inr ⟨.inl (by omega), ?_⟩
  rw [e, decD_big h1, List.append_assoc]; rfl
theorem decInv_end {N : Nat} {t : List UInt8} (h : decInv N 0 t) (ht : t ≠ []) : bT t = itoaB (N : Int) := by
 rw [itoaB_bT]
 rcases h with ⟨_, _, rfl⟩ | ⟨h1, _⟩
 ·rfl
 ·rcases h1 with h1 | h1
  ·omega
  ·exact absurd h1 ht

def textQ (p q : Nat) : ByteArray := if q = 1 then itoaB (p : Int) else itoaB (p : Int) ++ ⟨#[47]⟩ ++ itoaB (q : Int)
def textQL (p q : Nat) : List UInt8 := if q = 1 then Lib.decDigits p else Lib.decDigits p ++ 47 :: Lib.decDigits q
theorem textQ_bT (p q : Nat) : textQ p q = bT (textQL p q) := by
 unfold textQ textQL
 split
 ·exact itoaB_bT p
 ·rw [itoaB_bT, itoaB_bT, show (⟨#[47]⟩ : ByteArray) = bT [47] from rfl, bT_app, bT_app]; simp
theorem textQ_one (p : Nat) : textQ p 1 = itoaB (p : Int) := by unfold textQ; rw [if_pos rfl]
theorem textQ_size {p q : Nat} (hp : p < 1000000000) (hq : q < 1000000000) : (textQ p q).size ≤ 19 ∧ 0 < (textQ p q).size := by
 have h1 := decD_len 8 p hp
 have h2 := decD_len 8 q hq
 have h3 := decD_pos p
 rw [textQ_bT, bT_size]
 unfold textQL
 split
 ·omega
 ·simp; omega
theorem itoaB_len {p : Nat} (hp : p < 1000000000) : (itoaB (p : Int)).size ≤ 9 ∧ 0 < (itoaB (p : Int)).size := by
 have h1 := decD_len 8 p hp
 have h3 := decD_pos p
 rw [itoaB_bT, bT_size]; omega
/-- the place of the slash, or the length. -/
structure SlashAt (s : ByteArray) (k : Nat) : Prop where
 le : k ≤ s.size
 no : ∀ j : Nat, j < k → byteAt s j ≠ 47
 yes : k < s.size → byteAt s k = 47
theorem textQ_pre {p q j : Nat} (h : j < (itoaB (p : Int)).size) : 48 ≤ byteAt (textQ p q) j ∧ byteAt (textQ p q) j ≤ 57 := by
 rw [itoaB_bT, bT_size] at h
 have hl : j < (textQL p q).length := by
  unfold textQL; split
  ·exact h
  ·simp; omega
 have e : (textQL p q)[j] = (Lib.decDigits p)[j] := by
  have : (textQL p q)[j]? = (Lib.decDigits p)[j]? := by
   unfold textQL; split
   ·rfl
   ·rw [List.getElem?_append_left h]
  rw [List.getElem?_eq_getElem hl, List.getElem?_eq_getElem h] at this
  exact Option.some.inj this
 rw [textQ_bT, bT_at hl, e]
 have := decD_dig p _ (List.getElem_mem h)
 omega
theorem textQ_slash (p q : Nat) : SlashAt (textQ p q) (itoaB (p : Int)).size := by
 refine ⟨?_, fun j hj => by have := (textQ_pre (q := q) hj).1; omega, ?_⟩
 ·rw [textQ_bT, bT_size, itoaB_bT, bT_size]; unfold textQL; split
  ·exact Nat.le_refl _
  ·simp
 ·intro h
  rw [textQ_bT, bT_size, itoaB_bT, bT_size] at h
  rw [textQ_bT, itoaB_bT, bT_size, bT_at h]
  have : (textQL p q)[(Lib.decDigits p).length] = 47 := by
   unfold textQL at h ⊢
   split at h
   ·omega
   ·rename_i h1
    simp [h1]
  rw [this]; rfl
theorem textQ_num (p q : Nat) : (textQ p q).extract 0 (itoaB (p : Int)).size = itoaB (p : Int) := by
 rw [textQ_bT, itoaB_bT, bT_size, bT_extract]
 unfold textQL
 split <;> simp
theorem textQ_den {p q : Nat} (h : q ≠ 1) : (textQ p q).extract ((itoaB (p : Int)).size + 1) (textQ p q).size = itoaB (q : Int) := by
 rw [textQ_bT, itoaB_bT, itoaB_bT, bT_size, bT_size, bT_extract, List.take_of_length_le (Nat.le_refl _)]
 unfold textQL
 rw [if_neg h, List.drop_append]
 simp [List.drop_of_length_le]
theorem textQ_lt {p q : Nat} : (itoaB (p : Int)).size < (textQ p q).size ↔ q ≠ 1 := by
 rw [textQ_bT, itoaB_bT, bT_size, bT_size]
 unfold textQL
 split
 ·simp [*]
 ·simp [*]
theorem textQ_sz {p q : Nat} (h : q ≠ 1) : (textQ p q).size = (itoaB (p : Int)).size + 1 + (itoaB (q : Int)).size := by
 rw [textQ_bT, itoaB_bT, itoaB_bT, bT_size, bT_size, bT_size]
 unfold textQL
 rw [if_neg h]; simp; omega
theorem itoaB_dig {p k : Nat} (h : k < (itoaB (p : Int)).size) : 48 ≤ byteAt (itoaB (p : Int)) k ∧ byteAt (itoaB (p : Int)) k ≤ 57 := by
 have := textQ_pre (p := p) (q := 1) h
 rwa [textQ_one] at this

/-- digits to the base 10^9 of a small number. -/
def wD (n : Nat) : List Int := if n = 0 then [] else [(n : Int)]
theorem wD_len (n : Nat) : (wD n).length ≤ 1 := by unfold wD; split <;> simp
theorem wD_pos {n : Nat} (h : 0 < n) : wD n = [(n : Int)] := by unfold wD; rw [if_neg (by omega)]
end Go.Proofs.YtbchpkmcpplidaaGreatDoor

namespace Go.Proofs.YtbchpkmcpplidaaGreatDoor
open Go.RowKit
set_option maxHeartbeats 1000000
set_option maxRecDepth 100000

theorem reps_of_own {α : Type} {c : α → Value} {sz B : Nat} {e : TypeId} {w : World} {a : Option Addr} {n cap : Nat} {l : List α} (h : Own c sz B e w (.slice a n cap) l) (hn : n = l.length) : Reps c sz w a cap l := by
 subst hn
 obtain ⟨a', cap', e1, hr, _⟩ := h.reps
 cases e1
 exact hr

end Go.Proofs.YtbchpkmcpplidaaGreatDoor

namespace Go.Proofs.YtbchpkmcpplidaaGreatDoor
open Go.RowKit
set_option maxHeartbeats 1000000
set_option maxRecDepth 100000

end Go.Proofs.YtbchpkmcpplidaaGreatDoor

namespace Go.Proofs.YtbchpkmcpplidaaGreatDoor
open Go.RowKit
set_option maxHeartbeats 1000000
set_option maxRecDepth 100000

end Go.Proofs.YtbchpkmcpplidaaGreatDoor

namespace Go.Proofs.YtbchpkmcpplidaaGreatDoor
open Go.RowKit
set_option maxHeartbeats 2000000
set_option maxRecDepth 100000

def strZ : Value → Nat | .string s => if s.size = 0 then 1 else 0 | _ => 0
theorem rdecimal_any (N : Nat) (w : World) (hN : N < 1000000000000000000) :
  Calls Tryz.prog 147 #[.int .i64 N, .int .i64 1] w fun r w' => r = .returned (.string (itoaB N)) ∧ w = w' := by
 have hl := decD_len 17 N (by simpa using hN)
 have HL := hid hl
 clear hl
 go_enter Tryz.func147, Tryz.ntmps147
 go_wp2_with fail
 go_loopw [0, 5] (fun nv sv wr => ∃ (c : Nat) (t : List UInt8), nv = .int .i64 c ∧ sv = .string (bT t) ∧ c ≤ N ∧ decInv N c t ∧ w = wr) (fun nv sv _ => (intOf nv).toNat + strZ sv)
 case atStart => exact ⟨N, [], rfl, rfl, Nat.le_refl _, decInv_start N, rfl⟩
 case round =>
  obtain ⟨c, t, rfl, rfl, hc, hinv, rfl⟩ := hrel
  have hsz : (bT t).size ≤ 18 := by have := decInv_len hinv; have := HL.out; rw [bT_size]; omega
  have hst := fun h => decInv_step hinv h
  have HST := hid hst
  have hx := dig10_at (c % 10) (Nat.mod_lt _ (by decide))
  have HX := hid hx
  have HINV := hid hinv
  clear hst hx hinv
  by_cases h0 : 0 < c
  ·go_wp2_with fail
   have hx := HX.out
   unfold dig10 at hx
   refine ⟨⟨c / 10, (UInt8.ofNat (48 + c % 10) :: t), by first | omega | (congr 1; done) | (congr 1; omega) | rfl, by rw [hx, bT_app]; rfl, by omega, HST.out (.inl h0), by trivial⟩, ?_⟩
   rw [hx, bT_app]
   simp only [strZ, bT_size, intOf]
   simp
   omega
  ·have hc0 : c = 0 := by omega
   subst hc0
   by_cases ht : t = []
   ·subst ht
    go_wp2_with fail
    exact ⟨⟨0, [48], rfl, by first | rfl | (congr 1; decide), by omega, HST.out (.inr rfl), by trivial⟩, by first | decide | kernel_rfl | (simp [strZ, intOf]; decide)⟩
   ·have hs1 : ¬ (bT t).size < 1 := by rw [bT_size]; have := List.length_pos_iff.2 ht; omega
    have he := decInv_end HINV.out ht
    have HE := hid he; clear he
    go_wp2_with fail
    go_ret
    exact ⟨by rw [HE.out]; rfl, rfl⟩

theorem rslash_any (s : ByteArray) (K : Nat) (w : World) (h : SlashAt s K) (hz : s.size ≤ 1048576) :
  Calls Tryz.prog 123 #[.string s] w fun r w' => r = .returned (.int .i64 K) ∧ w = w' := by
 have h1 := h.le
 have HN := hid h.no; have HY := hid h.yes
 clear h
 go_enter Tryz.func123, Tryz.ntmps123
 go_wp2_with fail
 go_loopw [3] (fun i wr => ∃ k : Nat, k ≤ K ∧ i = .int .i64 k ∧ w = wr) (fun i _ => s.size - (intOf i).toNat)
 case atStart => exact ⟨0, by omega, rfl, rfl⟩
 case round =>
  obtain ⟨k, hk, rfl, rfl⟩ := hrel
  by_cases hlt : k < s.size
  ·have hb := byteAt_in hlt
   by_cases e : k = K
   ·subst e
    have hy := HY.out hlt
    rw [hb] at hy
    have d1 : (((s[k]'hlt).toNat : Int) == 47) = true := by simpa using hy
    clear hy hb
    go_wp2_with fail
    go_ret
    exact ⟨rfl, rfl⟩
   ·have hn := HN.out k (by omega)
    rw [hb] at hn
    have d1 : (((s[k]'hlt).toNat : Int) == 47) = false := by simpa using hn
    clear hn hb
    go_wp2_with fail
    exact ⟨⟨k + 1, by omega, by go_num, by trivial⟩, by simp [intOf]; omega⟩
  ·have : k = K := by omega
   subst this
   have e : k = s.size := by omega
   have HE := hid e; clear e
   go_wp2_with fail
   go_ret
   exact ⟨by rw [← HE.out]; rfl, rfl⟩

theorem rvalue_any (p : Nat) (w : World) (hp : p < 1000000000) :
  Calls Tryz.prog 149 #[.string (itoaB p)] w fun r w' => r = .returned (.int .i64 p) ∧ w = w' := by
 have hz := (itoaB_len hp).1
 have hdig := fun k (h : k < (itoaB (p : Int)).size) => itoaB_dig (p := p) h
 have hval : ∀ k : Nat, k ≤ (itoaB (p : Int)).size → valL ((Lib.decDigits p).take k) < 10 ^ k := fun k hk => valL_lt _ (decD_dig p) k (by rw [itoaB_bT, bT_size] at hk; exact hk)
 have hstep : ∀ (k : Nat) (h : k < (itoaB (p : Int)).size), (valL ((Lib.decDigits p).take (k + 1)) : Int) = 10 * valL ((Lib.decDigits p).take k) + (((itoaB (p : Int))[k]'h).toNat : Int) - 48 := by
  intro k h
  have h2 : k < (Lib.decDigits p).length := by rw [itoaB_bT, bT_size] at h; exact h
  have h3 := decD_dig p _ (List.getElem_mem h2)
  have h4 : (((itoaB (p : Int))[k]'h).toNat : Int) = ((Lib.decDigits p)[k].toNat : Int) := by
   rw [← byteAt_in h]
   simp only [itoaB_bT]
   rw [bT_at h2]
  rw [h4, valL_take h2]; omega
 have hend : valL ((Lib.decDigits p).take (itoaB (p : Int)).size) = p := by
  rw [itoaB_bT, bT_size, List.take_of_length_le (Nat.le_refl _), valL_dec]
 obtain ⟨s, hs⟩ : ∃ s, s = itoaB (p : Int) := ⟨_, rfl⟩
 have hbig : ∀ k : Nat, k ≤ 9 → 10 ^ k ≤ 1000000000 := fun k hk => by
  have := Nat.pow_le_pow_right (n := 10) (by decide) hk
  simpa using this
 obtain ⟨vl, hvl⟩ : ∃ vl : Nat → Nat, vl = fun k => valL ((Lib.decDigits p).take k) := ⟨_, rfl⟩
 have hval2 : ∀ k : Nat, k ≤ s.size → vl k < 1000000000 := fun k hk => by
  rw [hs] at hk; rw [hvl]
  exact Nat.lt_of_lt_of_le (hval k hk) (hbig k (by omega))
 have hstep2 : ∀ (k : Nat) (h : k < s.size), (vl (k + 1) : Int) = 10 * vl k + ((s[k]'h).toNat : Int) - 48 := by subst hs; subst hvl; exact hstep
 have hend2 : vl s.size = p := by subst hs; subst hvl; exact hend
 have hdig2 : ∀ k (h : k < s.size), 48 ≤ byteAt s k ∧ byteAt s k ≤ 57 := by subst hs; exact hdig
 have h02 : vl 0 = 0 := by subst hvl; rfl
 rw [← hs] at hz ⊢
 have HV := hid hval2; have HS := hid hstep2; have HE := hid hend2; have HD := hid hdig2; have H0 := hid h02
 clear hval2 hstep2 hend2 hdig2 h02 hval hstep hend hdig hbig hs hvl
 go_enter Tryz.func149, Tryz.ntmps149
 go_wp2_with fail
 go_loopw [3, 4] (fun nv i wr => ∃ k : Nat, k ≤ s.size ∧ i = .int .i64 k ∧ nv = .int .i64 (vl k) ∧ w = wr) (fun _ i _ => s.size - (intOf i).toNat)
 case atStart => exact ⟨0, by omega, rfl, by rw [H0.out]; rfl, rfl⟩
 case round =>
  obtain ⟨k, hk, rfl, rfl, rfl⟩ := hrel
  have hv := HV.out k hk
  by_cases hlt : k < s.size
  ·have hd := HD.out k hlt
   rw [byteAt_in hlt] at hd
   have hst := HS.out k hlt
   have HST := hid hst; clear hst
   go_wp2_with fail
   exact ⟨⟨k + 1, by omega, by go_num, by rw [HST.out]; try (congr 1; omega), by trivial⟩, by simp [intOf]; omega⟩
  ·have : k = s.size := by omega
   subst this
   go_wp2_with fail
   go_ret
   exact ⟨by rw [HE.out]; rfl, rfl⟩

theorem rquick_any (p q : Nat) (w : World) (hp : p < 1000000000) (hq : q < 1000000000) :
  Calls Tryz.prog 118 #[.string (textQ p q)] w fun r w' => r = .returned (.tuple #[.int .i64 p, .int .i64 q, .bool true]) ∧ w = w' := by
 obtain ⟨z1, z2⟩ := textQ_size hp hq
 obtain ⟨z3, z4⟩ := itoaB_len hp
 obtain ⟨z5, z6⟩ := itoaB_len hq
 have hd := textQ_pre (p := p) (q := q) z4
 have hsl := textQ_slash p q
 have hnum := textQ_num p q
 have hle := hsl.le
 obtain ⟨s, hs⟩ : ∃ s, s = textQ p q := ⟨_, rfl⟩
 obtain ⟨k, hk⟩ : ∃ k, k = (itoaB (p : Int)).size := ⟨_, rfl⟩
 have CS := fun w => rslash_any s k w (by rw [hs, hk]; exact hsl) (by rw [hs]; omega)
 have CP := fun w => rvalue_any p w hp
 have CQ := fun w => rvalue_any q w hq
 rw [← hs] at z1 z2 hd hnum hle ⊢
 rw [← hk] at hnum z3 z4 hle
 have z2' : 0 < s.size := z2
 rw [byteAt_in z2'] at hd
 have d1 : (((s[0]'z2').toNat : Int) == 45) = false := by simp; omega
 have HCS := hid CS; have HCQ := hid CQ
 have HN := hid hnum
 by_cases h1 : q = 1
 ·have hks : k = s.size := by rw [hs, hk, h1, textQ_one]
  have hse : itoaB (p : Int) = s := by rw [hs, h1, textQ_one]
  rw [hse] at CP
  have HCP := hid CP
  subst h1
  clear hse CS CP CQ hnum hs hk hsl hd HCQ
  go_enter Tryz.func118, Tryz.ntmps118
  go_wp2_with fail
  refine (HCS.out _).mono ?_
  rintro e w' ⟨rfl, rfl⟩
  go_wp2_with fail
  refine (HCP.out _).mono ?_
  rintro e w' ⟨rfl, rfl⟩
  go_wp2_with fail
  go_ret3
  exact ⟨rfl, rfl⟩
 ·have hden := textQ_den (p := p) h1
  have hlt := (textQ_lt (p := p)).2 h1
  have hsz := textQ_sz (p := p) h1
  rw [← hs, ← hk] at hlt hden hsz
  rw [hsz] at hden
  have HDN := hid hden; have HCP := hid CP
  clear CS CP CQ hnum hs hk hsl hd hden
  go_enter Tryz.func118, Tryz.ntmps118
  go_wp2_with fail
  refine (HCS.out _).mono ?_
  rintro e w' ⟨rfl, rfl⟩
  go_wp2_with fail
  rw [HN.out]
  refine (HCP.out _).mono ?_
  rintro e w' ⟨rfl, rfl⟩
  go_wp2_with fail
  rw [HDN.out]
  refine (HCQ.out _).mono ?_
  rintro e w' ⟨rfl, rfl⟩
  go_wp2_with fail
  go_ret3
  exact ⟨rfl, rfl⟩
end Go.Proofs.YtbchpkmcpplidaaGreatDoor

namespace Go.Proofs.YtbchpkmcpplidaaGreatDoor
open Go.RowKit
set_option maxHeartbeats 2000000
set_option maxRecDepth 100000

theorem A_integer : Aggr Tryz.prog 144 := ⟨_, Tryz.underlying144, rfl⟩
theorem ints_empty (w : World) (b o cap : Nat) (h : cap ≤ 9223372036854775807) : Ints w (some ⟨b, o, none⟩) cap [] := ⟨cIntS, Nat.zero_le _, by unfold maxLen; omega, fun e => (by cases e), fun j u hu => (by simp at hu)⟩
theorem wd_ints {w : World} {a : Option Addr} {cap x : Nat} (hS : Ints w a cap [(x : Int)]) : Ints w a cap (wD x) := by
 by_cases hx : x = 0
 ·subst hx
  obtain ⟨b, o, rfl, _⟩ := hS.cells (by decide) 0 0 (by simp)
  exact ints_empty _ _ _ _ hS.max
 ·rw [wD_pos (by omega)]; exact hS
theorem wd_cases (x : Nat) : (x = 0 ∧ wD x = []) ∨ (0 < x ∧ wD x = [(x : Int)]) := by
 by_cases hx : x = 0
 ·exact .inl ⟨hx, by rw [hx]; rfl⟩
 ·exact .inr ⟨by omega, wD_pos (by omega)⟩

theorem rtrim_any (x : Nat) (a : Option Addr) (cap : Nat) (w : World) (hS : Ints w a cap [(x : Int)]) :
  Calls Tryz.prog 180 #[.slice a 1 cap] w fun r w' => r = .returned (.slice a (wD x).length cap) ∧ w = w' := by
 have hcap := hS.le
 have hm0 := hS.max
 simp only [List.length_cons, List.length_nil] at hcap
 obtain ⟨b, o, rfl, hc⟩ := hS.cells (by decide) 0 0 (by simp)
 have hc := hc 0 (.int .i64 x) rfl
 simp only [Nat.mul_one, Nat.add_zero, Nat.zero_mul] at hc
 by_cases hx : x = 0
 ·subst hx
  go_enter Tryz.func180, Tryz.ntmps180
  go_wp2_with fail
  go_loopw [0] (fun v wr => (v = .slice (some ⟨b, o, none⟩) 1 cap ∨ v = .slice (some ⟨b, o, none⟩) 0 cap) ∧ w = wr) (fun v _ => lenV v)
  case atStart => exact ⟨.inl rfl, rfl⟩
  case round =>
   obtain ⟨rfl | rfl, rfl⟩ := hrel
   ·go_wp2_with fail
    exact ⟨⟨.inr rfl, by trivial⟩, by simp [lenV]⟩
   ·go_wp2_with fail
    go_ret
    exact ⟨rfl, rfl⟩
 ·have hxi : ((x : Int) == 0) = false := by simp; omega
  have hw : wD x = [(x : Int)] := wD_pos (by omega)
  rw [hw]
  clear hw
  go_enter Tryz.func180, Tryz.ntmps180
  go_wp2_with fail
  go_loopw [0] (fun v wr => v = .slice (some ⟨b, o, none⟩) 1 cap ∧ w = wr) (fun v _ => 0)
  case atStart => exact ⟨rfl, rfl⟩
  case round =>
   obtain ⟨rfl, rfl⟩ := hrel
   go_wp2_with fail
   go_ret
   exact ⟨rfl, rfl⟩
theorem rtrimE_any (a : Option Addr) (cap : Nat) (w : World) :
  Calls Tryz.prog 180 #[.slice a 0 cap] w fun r w' => r = .returned (.slice a 0 cap) ∧ w = w' := by
 go_enter Tryz.func180, Tryz.ntmps180
 go_wp2_with fail
 go_loopw [0] (fun v wr => v = .slice a 0 cap ∧ w = wr) (fun v _ => 0)
 case atStart => exact ⟨rfl, rfl⟩
 case round =>
  obtain ⟨rfl, rfl⟩ := hrel
  go_wp2_with fail
  go_ret
  exact ⟨rfl, rfl⟩
theorem rsigned_any (x : Nat) (a : Option Addr) (cap : Nat) (w : World) (hS : Ints w a cap [(x : Int)]) :
  Calls Tryz.prog 148 #[.bool false, .slice a 1 cap] w fun r w' => r = .returned (.agg #[.bool false, .slice a (wD x).length cap]) ∧ Below w.heap.size w w' := by
 have CT := fun w (hS : Ints w a cap [(x : Int)]) => rtrim_any x a cap w hS
 have HT := hid CT; clear CT
 have hl := wD_len x
 have hS0 := (SL.nil w).box (.cells #[.bool false, .slice none 0 0] 144)
 go_enter Tryz.func148, Tryz.ntmps148
 go_wp2_with fail
 refine (HT.out _ (hS.alloc _)).mono ?_
 rintro e w1 ⟨rfl, rfl⟩
 go_wp2_with ((with_reducible refine wpList_stoR (us := #[.bool false, .slice a (wD x).length cap]) 0 (by with_unfolding_all rfl) (by with_unfolding_all rfl) (hS0) (by with_unfolding_all rfl) (by kernel_rfl) (by with_unfolding_all rfl) (by with_unfolding_all rfl) ?_); intro w2 hS2)
 exact bodyPost_ret (results_cell rfl rfl A_integer (by kernel_rfl) (hS2.blk 0 rfl).1) rfl ⟨rfl, hS2.b⟩
theorem rsignedE_any (a : Option Addr) (cap : Nat) (w : World) :
  Calls Tryz.prog 148 #[.bool false, .slice a 0 cap] w fun r w' => r = .returned (.agg #[.bool false, .slice a 0 cap]) ∧ Below w.heap.size w w' := by
 have CT := fun w => rtrimE_any a cap w
 have HT := hid CT; clear CT
 have hS0 := (SL.nil w).box (.cells #[.bool false, .slice none 0 0] 144)
 go_enter Tryz.func148, Tryz.ntmps148
 go_wp2_with fail
 refine (HT.out _).mono ?_
 rintro e w1 ⟨rfl, rfl⟩
 go_wp2_with ((with_reducible refine wpList_stoR (us := #[.bool false, .slice a 0 cap]) 0 (by with_unfolding_all rfl) (by with_unfolding_all rfl) (hS0) (by with_unfolding_all rfl) (by kernel_rfl) (by with_unfolding_all rfl) (by with_unfolding_all rfl) ?_); intro w2 hS2)
 exact bodyPost_ret (results_cell rfl rfl A_integer (by kernel_rfl) (hS2.blk 0 rfl).1) rfl ⟨rfl, hS2.b⟩

theorem SL.ownB {α : Type} {c : α → Value} {sz B n cap : Nat} {e : TypeId} {w0 w : World} {L : List Pc} {a : Option Addr} {l : List α} (h : SL B w0 w L) (i : Nat) (hi : L[i]? = some (pOwn c sz e (.slice a n cap) l)) : ∀ b, a = some b → B ≤ b.block := by
 obtain ⟨b, hP, hB, _⟩ := h.upd i hi
 intro b' e1
 subst e1
 exact hB b'.block (hP.2.symm.trans rfl)
/-- an integer of the reference that is not negative, and small. -/
def NatR (w : World) (v : Value) (n : Nat) : Prop := ∃ a cap, v = .agg #[.bool false, .slice a (wD n).length cap] ∧ Ints w a cap (wD n)
theorem NatR.below {w w' : World} {v : Value} {n : Nat} (h : NatR w v n) (hb : Below w.heap.size w w') : NatR w' v n := by
 obtain ⟨a, cap, h1, h2⟩ := h; exact ⟨a, cap, h1, h2.below hb⟩

theorem rwhole_any (x : Nat) (w : World) (hx : x < 1000000000) :
  Calls Tryz.prog 117 #[.int .i64 x] w fun r w' => ∃ a cap, r = .returned (.agg #[.bool false, .slice a (wD x).length cap]) ∧ Ints w' a cap (wD x) ∧ (∀ b, a = some b → w.heap.size ≤ b.block) ∧ Below w.heap.size w w' := by
 have CS := fun a cap w hS => rsigned_any x a cap w hS
 have CE := fun a cap w => rsignedE_any a cap w
 have HS := hid CS; have HE := hid CE; clear CS CE
 have hS0 := ((SL.nil w).box (.cells #[.bool false, .slice none 0 0] 144)).nilS (α := Int) (c := cInt) (sz := 1) (e := 3) cIntS
 by_cases h0 : x = 0
 ·subst h0
  go_enter Tryz.func117, Tryz.ntmps117
  go_wp2_with fail
  go_loopw [0, 3, 5] (fun nv wv _ wr => nv = .int .i64 0 ∧ wv = .slice none 0 0 ∧ SL w.heap.size w wr [pBlk w.heap.size (.cells #[.bool false, .slice none 0 0] 144)]) (fun _ _ _ _ => 0)
  case atStart => exact ⟨rfl, rfl, hS0.tail⟩
  case round =>
   obtain ⟨rfl, rfl, hSL⟩ := hrel
   go_wp2_with fail
   refine (HE.out none 0 wr).mono ?_
   rintro e w1 ⟨rfl, b1⟩
   have hSL1 := hSL.mono b1
   go_wp2_with ((with_reducible refine wpList_stoR (us := #[.bool false, .slice none 0 0]) 0 (by with_unfolding_all rfl) (by with_unfolding_all rfl) (hSL1) (by with_unfolding_all rfl) (by kernel_rfl) (by with_unfolding_all rfl) (by with_unfolding_all rfl) ?_); intro w2 hS2)
   exact bodyPost_ret (results_cell rfl rfl A_integer (by kernel_rfl) (hS2.blk 0 rfl).1) rfl ⟨none, 0, rfl, ints_nil _, (fun b e => by cases e), hS2.b⟩
 ·have hmod : (x : Int) % 1000000000 = x := Int.emod_eq_of_lt (by omega) (by omega)
  have hdiv : (x : Int) / 1000000000 = 0 := Int.ediv_eq_zero_of_lt (by omega) (by omega)
  have hne : ((x : Int) != 0) = true := by simp; omega
  go_enter Tryz.func117, Tryz.ntmps117
  go_wp2_with fail
  go_loopw [0, 3, 5] (fun nv wv _ wr => ∃ (c : Nat) (l : List Int), nv = .int .i64 c ∧ ((c = x ∧ l = []) ∨ (c = 0 ∧ l = [(x : Int)])) ∧ SL w.heap.size w wr [pOwn cInt 1 3 wv l, pBlk w.heap.size (.cells #[.bool false, .slice none 0 0] 144)]) (fun nv _ _ _ => (intOf nv).toNat)
  case atStart => exact ⟨x, [], rfl, .inl ⟨rfl, rfl⟩, hS0⟩
  case round =>
   clear hS0
   obtain ⟨c, l, rfl, ⟨rfl, rfl⟩ | ⟨rfl, rfl⟩, hSL⟩ := hrel
   ·have hl0 : ([] : List Int).length ≤ 5 := by simp
    go_wp2_with ((with_reducible refine wpList_pushL (y := (c : Int)) 0 E_ints (by with_unfolding_all rfl) (by with_unfolding_all rfl) (hSL) (by with_unfolding_all rfl) cIntO ⟨rfl, rfl⟩ (by first | with_unfolding_all rfl | simp) (by with_unfolding_all rfl) (by first | omega | (simp; omega)) (by first | omega | (simp; omega)) ?_); intro v3 w3 hS3)
    exact ⟨⟨0, _, rfl, .inr ⟨rfl, rfl⟩, hS3⟩, by simp [intOf]; omega⟩
   ·obtain ⟨a, cap, rfl, hR⟩ := hSL.slice 0 rfl
    clear hmod hdiv hne
    go_wp2_with fail
    refine (HS.out a cap wr hR).mono ?_
    rintro e w1 ⟨rfl, b1⟩
    have hSL1 := hSL.mono b1
    go_wp2_with ((with_reducible refine wpList_stoR (us := #[.bool false, .slice a (wD x).length cap]) 1 (by with_unfolding_all rfl) (by with_unfolding_all rfl) (hSL1) (by with_unfolding_all rfl) (by kernel_rfl) (by with_unfolding_all rfl) (by with_unfolding_all rfl) ?_); intro w2 hS2)
    exact bodyPost_ret (results_cell rfl rfl A_integer (by kernel_rfl) (hS2.blk 1 rfl).1) rfl ⟨a, cap, rfl, wd_ints (hS2.rd 0 rfl), hS2.ownB 0 rfl, hS2.b⟩

theorem rtext_any (x : Nat) (v : Value) (w : World) (hx : x < 1000000000) (hv : NatR w v x) :
  Calls Tryz.prog 116 #[v] w fun r w' => r = .returned (.string (itoaB x)) ∧ Below w.heap.size w w' := by
 obtain ⟨a, cap, rfl, hR⟩ := hv
 have CD := fun w => rdecimal_any x w (by omega)
 have HD := hid CD; clear CD
 rcases wd_cases x with ⟨h0, hw⟩ | ⟨h0, hw⟩
 ·subst h0
  rw [hw]
  have hz : itoaB ((0 : Nat) : Int) = ⟨#[48]⟩ := by rw [itoaB_nat, decD_small (by decide)]; rfl
  rw [hz]
  clear hz hw hR
  go_enter Tryz.func116, Tryz.ntmps116
  go_wp2_with fail
  go_ret
  exact ⟨rfl, bal (Below.refl _ _) _⟩
 ·rw [hw] at hR ⊢
  clear hw
  have hR1 := hR.alloc (.cells #[.bool false, .slice a 1 cap] 144)
  go_enter Tryz.func116, Tryz.ntmps116
  go_wp2_with (with_reducible refine wpList_idx _ 0 E_ints F_int cInt1 (by with_unfolding_all rfl) (by with_unfolding_all rfl) (hR1) (by first | omega | (simp; done)) (by first | omega | (simp; done)) (fun _ => by with_unfolding_all rfl) (fun _ => ?_))
  refine (HD.out _).mono ?_
  rintro e w1 ⟨rfl, rfl⟩
  go_wp2_with fail
  go_loopw [3, 4] (fun sv iv wr => sv = .string (itoaB x) ∧ iv = .int .i64 (-1) ∧ wr = w.alloc (.cells #[.bool false, .slice a 1 cap] 144)) (fun _ _ _ => 0)
  case atStart => exact ⟨rfl, rfl, rfl⟩
  case round =>
   obtain ⟨rfl, rfl, rfl⟩ := hrel
   go_wp2_with fail
   go_ret
   exact ⟨rfl, bal (Below.refl _ _) _⟩

theorem rparse_any (x : Nat) (w : World) (hx : x < 1000000000) :
  Calls Tryz.prog 151 #[.string (itoaB x)] w fun r w' => ∃ a cap, r = .returned (.agg #[.bool false, .slice a (wD x).length cap]) ∧ Ints w' a cap (wD x) ∧ (∀ b, a = some b → w.heap.size ≤ b.block) ∧ Below w.heap.size w w' := by
 obtain ⟨z1, z2⟩ := itoaB_len hx
 have hd := itoaB_dig z2
 have CV := fun w => rvalue_any x w hx
 have CS := fun a cap w hS => rsigned_any x a cap w hS
 have HS := hid CS; clear CS
 obtain ⟨s, hs⟩ : ∃ s, s = itoaB (x : Int) := ⟨_, rfl⟩
 rw [← hs] at z1 z2 hd CV ⊢
 have HV := hid CV
 rw [byteAt_in z2] at hd
 have d1 : (((s[0]'z2).toNat : Int) == 45) = false := by simp; omega
 clear CV hs hd
 have hS0 := ((SL.nil w).box (.cells #[.bool false, .slice none 0 0] 144)).nilS (α := Int) (c := cInt) (sz := 1) (e := 3) cIntS
 go_enter Tryz.func151, Tryz.ntmps151
 go_wp2_with fail
 go_loopw [0, 4] (fun sv wv wr => sv = .string s ∧ wv = .slice none 0 0 ∧ SL w.heap.size w wr [pOwn cInt 1 3 (.slice none 0 0) [], pBlk w.heap.size (.cells #[.bool false, .slice none 0 0] 144)]) (fun _ _ _ => 0)
 case atStart => exact ⟨rfl, rfl, hS0⟩
 case round =>
  obtain ⟨rfl, rfl, hSL⟩ := hrel
  clear hS0
  have hl0 : ([] : List Int).length ≤ 5 := by simp
  go_wp2_with (first | (go_at_call 149; with_reducible refine (HV.out _).mono ?_; rintro e w' ⟨rfl, rfl⟩) | ((with_reducible refine wpList_pushL (y := (x : Int)) 0 E_ints (by with_unfolding_all rfl) (by with_unfolding_all rfl) (hSL) (by with_unfolding_all rfl) cIntO ⟨rfl, rfl⟩ (by first | with_unfolding_all rfl | simp) (by with_unfolding_all rfl) (by first | omega | (simp; omega)) (by first | omega | (simp; omega)) ?_); intro v3 w3 hS3))
  obtain ⟨a, cap, rfl, hR⟩ := hS3.slice 0 rfl
  go_wp2_with fail
  refine (HS.out a cap w3 hR).mono ?_
  rintro e w1 ⟨rfl, b1⟩
  have hSL1 := hS3.mono b1
  go_wp2_with ((with_reducible refine wpList_stoR (us := #[.bool false, .slice a (wD x).length cap]) 1 (by with_unfolding_all rfl) (by with_unfolding_all rfl) (hSL1) (by with_unfolding_all rfl) (by kernel_rfl) (by with_unfolding_all rfl) (by with_unfolding_all rfl) ?_); intro w2 hS2)
  exact bodyPost_ret (results_cell rfl rfl A_integer (by kernel_rfl) (hS2.blk 1 rfl).1) rfl ⟨a, cap, rfl, wd_ints (hS2.rd 0 rfl), hS2.ownB 0 rfl, hS2.b⟩

theorem rFromInt_any (x : Nat) (w : World) (hx : x < 1000000000) :
  Calls Tryz.prog 67 #[.int .i64 x] w fun r w' => r = .returned (.string (itoaB x)) ∧ Below w.heap.size w w' := by
 have CW := fun w => rwhole_any x w hx
 have CT := fun v w hv => rtext_any x v w hx hv
 have HW := hid CW; have HT := hid CT; clear CW CT
 go_enter Tryz.func67, Tryz.ntmps67
 go_wp2_with fail
 refine (HW.out w).mono ?_
 rintro e w1 ⟨a1, c1, rfl, h1, _, b1⟩
 go_wp2_with fail
 refine (HT.out _ w1 ⟨a1, c1, rfl, h1⟩).mono ?_
 rintro e w2 ⟨rfl, b2⟩
 go_wp2_with fail
 go_ret
 exact ⟨rfl, bnext b1 b2⟩

def cmpN (x y : Nat) : Int := if x < y then -1 else if y < x then 1 else 0
theorem rcompare_any (x y : Nat) (a b : Option Addr) (cap cap2 : Nat) (w : World) (hy0 : 0 < y) (hS : Ints w a cap (wD x)) (hT : Ints w b cap2 (wD y)) :
  Calls Tryz.prog 181 #[.slice a (wD x).length cap, .slice b (wD y).length cap2] w fun r w' => r = .returned (.int .i64 (cmpN x y)) ∧ Below w.heap.size w w' := by
 have hw2 := wD_pos hy0
 rw [hw2] at hT ⊢
 clear hw2
 rcases wd_cases x with ⟨h0, hw⟩ | ⟨h0, hw⟩
 ·have e : cmpN x y = -1 := by unfold cmpN; rw [if_pos (by omega)]
  rw [hw, e]
  clear hw e hS
  go_enter Tryz.func181, Tryz.ntmps181
  go_wp2_with fail
  go_ret
  exact ⟨rfl, Below.refl _ _⟩
 ·rw [hw] at hS ⊢
  clear hw
  have hx0 : atD 0 [(x : Int)] 0 = x := rfl
  have hy1 : atD 0 [(y : Int)] 0 = y := rfl
  go_enter Tryz.func181, Tryz.ntmps181
  go_wp2_with fail
  go_loopw [5] (fun iv wr => (iv = .int .i64 0 ∨ (iv = .int .i64 (-1) ∧ x = y)) ∧ Below w.heap.size w wr) (fun iv _ => (intOf iv + 1).toNat)
  case atStart => exact ⟨.inl rfl, Below.refl _ _⟩
  case round =>
   obtain ⟨rfl | ⟨rfl, rfl⟩, hbr⟩ := hrel
   ·have hSr := hS.below hbr
    have hTr := hT.below hbr
    go_wp2_with fail
    refine wp_region_quiet_lit (by kernel_rfl) (by kernel_rfl) ?_
    repeat (first | ((with_reducible refine wpQD_idx 0 E_ints F_int cInt1 (by with_unfolding_all rfl) (by with_unfolding_all rfl) (hSr) (by first | omega | (simp; done)) (by first | omega | (simp; done)) (fun _ => by with_unfolding_all rfl) (fun _ => ?_)); (try simp only [Act.put, pA, pB, pC]); (try simp only [cInt])) | ((with_reducible refine wpQD_idx 0 E_ints F_int cInt1 (by with_unfolding_all rfl) (by with_unfolding_all rfl) (hTr) (by first | omega | (simp; done)) (by first | omega | (simp; done)) (fun _ => by with_unfolding_all rfl) (fun _ => ?_)); (try simp only [Act.put, pA, pB, pC]); (try simp only [cInt])) | quiet_step (fail))
    refine wpQuiet_nil ?_
    intro w2 hb2
    replace hb2 := below_drewN hb2
    try rw [hx0, hy1]
    have hSr2 := hSr.below hb2
    have hTr2 := hTr.below hb2
    by_cases h1 : x < y
    ·have e : cmpN x y = -1 := by unfold cmpN; rw [if_pos h1]
     have HE := hid e; clear e
     have h1' : (x : Int) < y := by omega
     go_wp2_with fail
     go_ret
     exact ⟨by rw [HE.out]; rfl, bnext hbr hb2⟩
    ·have h1' : ¬ (x : Int) < y := by omega
     go_wp2_with fail
     refine wp_region_quiet_lit (by kernel_rfl) (by kernel_rfl) ?_
     repeat (first | ((with_reducible refine wpQD_idx 0 E_ints F_int cInt1 (by with_unfolding_all rfl) (by with_unfolding_all rfl) (hSr2) (by first | omega | (simp; done)) (by first | omega | (simp; done)) (fun _ => by with_unfolding_all rfl) (fun _ => ?_)); (try simp only [Act.put, pA, pB, pC]); (try simp only [cInt])) | ((with_reducible refine wpQD_idx 0 E_ints F_int cInt1 (by with_unfolding_all rfl) (by with_unfolding_all rfl) (hTr2) (by first | omega | (simp; done)) (by first | omega | (simp; done)) (fun _ => by with_unfolding_all rfl) (fun _ => ?_)); (try simp only [Act.put, pA, pB, pC]); (try simp only [cInt])) | quiet_step (fail))
     refine wpQuiet_nil ?_
     intro w3 hb3
     replace hb3 := below_drewN hb3
     try rw [hx0, hy1]
     have b3 := bnext hbr (bnext hb2 hb3)
     by_cases h2 : y < x
     ·have e : cmpN x y = 1 := by unfold cmpN; rw [if_neg h1, if_pos h2]
      have HE := hid e; clear e
      have h2' : (y : Int) < x := by omega
      go_wp2_with fail
      go_ret
      exact ⟨by rw [HE.out]; rfl, b3⟩
     ·have h2' : ¬ (y : Int) < x := by omega
      go_wp2_with fail
      exact ⟨⟨.inr ⟨rfl, by omega⟩, b3⟩, by simp [intOf]⟩
   ·have e : cmpN x x = 0 := by unfold cmpN; rw [if_neg (by omega), if_neg (by omega)]
    have HE := hid e; clear e
    go_wp2_with fail
    go_ret
    exact ⟨by rw [HE.out]; rfl, hbr⟩

theorem rdivDigit_any (x y : Nat) (a : Option Addr) (cap : Nat) (w : World) (hx : x < 1000000000) (hy : y < 1000000000) (hy0 : 0 < y) (hS : Ints w a cap [(x : Int)]) :
  Calls Tryz.prog 182 #[.slice a 1 cap, .int .i64 y] w fun r w' => ∃ a1 c1, r = .returned (.tuple #[.slice a1 (wD (x / y)).length c1, .int .i64 ((x % y : Nat) : Int)]) ∧ Ints w' a1 c1 (wD (x / y)) ∧ Below w.heap.size w w' := by
 have CT := fun a cap w hS => rtrim_any (x / y) a cap w hS
 have HT := hid CT; clear CT
 have hS0 := SL.nil w
 have hx0 : atD 0 [(x : Int)] 0 = x := rfl
 have q1 : ((x / y : Nat) : Int) = (x : Int) / y := Int.natCast_ediv x y
 have q2 : ((x % y : Nat) : Int) = (x : Int) % y := Int.natCast_emod x y
 have b1 : 0 ≤ (x : Int) / y := Int.ediv_nonneg (by omega) (by omega)
 have b2 : (x : Int) / y ≤ x := Int.ediv_le_self _ (by omega)
 have b3 : 0 ≤ (x : Int) % y := Int.emod_nonneg _ (by omega)
 have b4 : (x : Int) % y < y := Int.emod_lt_of_pos _ (by omega)
 have hw1 : IntKind.i64.wrap ((x : Int) / y) = (x : Int) / y := IntWalk.i64_in _ (by omega)
 have hw2 : IntKind.i64.wrap ((x : Int) % y) = (x : Int) % y := IntWalk.i64_in _ (by omega)
 have q3 : (x : Int).tdiv y = (x : Int) / y := Int.tdiv_eq_ediv_of_nonneg (by omega)
 have q4 : (x : Int).tmod y = (x : Int) % y := Int.tmod_eq_emod_of_nonneg (by omega)
 have hq : x / y ≤ x := Nat.div_le_self _ _
 have hr : x % y < y := Nat.mod_lt _ hy0
 have hyn : ¬ (y : Int) = 0 := by omega
 have Q1 := hid q1; have Q2 := hid q2
 rw [q2]
 clear q1 q2
 go_enter Tryz.func182, Tryz.ntmps182
 go_wp2_with ((with_reducible refine wpList_makeL (c := cInt) (1) (0) E_ints cInt1 (by with_unfolding_all rfl) (by with_unfolding_all rfl) (by omega) (by omega) (hS0) ?_); intro ad w1 hS1)
 go_loopw [7, 8, 9] (fun rv iv _ wr => ((rv = .int .i64 0 ∧ iv = .int .i64 0 ∧ SL w.heap.size w wr [pOwn cInt 1 3 (.slice ad 1 1) [0]]) ∨ (rv = .int .i64 ((x : Int) % y) ∧ iv = .int .i64 (-1) ∧ SL w.heap.size w wr [pOwn cInt 1 3 (.slice ad 1 1) [(x : Int) / y]]))) (fun _ iv _ _ => (intOf iv + 1).toNat)
 case atStart => exact .inl ⟨rfl, rfl, hS1⟩
 case round =>
  rcases hrel with ⟨rfl, rfl, hSL⟩ | ⟨rfl, rfl, hSL⟩
  ·have hSr := hS.below hSL.b
   go_wp2_with (first | ((with_reducible refine wpList_idx _ 0 E_ints F_int cInt1 (by with_unfolding_all rfl) (by with_unfolding_all rfl) (hSr) (by first | omega | (simp; done)) (by first | omega | (simp; done)) (fun _ => by with_unfolding_all rfl) (fun _ => ?_)); try rw [hx0]) | ((with_reducible refine wpList_storeL (u := ((x : Int) / y)) 0 E_ints cInt1 (sto_int) (by with_unfolding_all rfl) (by with_unfolding_all rfl) (hSL) (by with_unfolding_all rfl) (by first | omega | (simp; done) | (simp; omega)) (by first | omega | (simp; done) | (simp; omega)) (fun _ => by with_unfolding_all rfl) (fun _ => by with_unfolding_all rfl) ?_); intro _ w3 hS3))
   exact ⟨.inr ⟨rfl, rfl, hS3⟩, by simp [intOf]⟩
  ·have hR := hSL.rd 0 rfl
   rw [← Q1.out] at hR
   clear q3 q4 hw1 hw2
   go_wp2_with fail
   refine (HT.out ad 1 wr hR).mono ?_
   rintro e w1 ⟨rfl, rfl⟩
   go_wp2_with fail
   go_ret2
   exact ⟨_, _, rfl, wd_ints hR, hSL.b⟩
end Go.Proofs.YtbchpkmcpplidaaGreatDoor

namespace Go.Proofs.YtbchpkmcpplidaaGreatDoor
open Go.RowKit
set_option maxHeartbeats 2000000
set_option maxRecDepth 100000

theorem rdivDigits_any (x y : Nat) (a b : Option Addr) (cap cap2 : Nat) (w : World) (hx : x < 1000000000) (hy : y < 1000000000) (hy0 : 0 < y) (hS : Ints w a cap (wD x)) (hT : Ints w b cap2 (wD y)) :
  Calls Tryz.prog 154 #[.slice a (wD x).length cap, .slice b (wD y).length cap2] w fun r w' => ∃ a1 c1 a2 c2, r = .returned (.tuple #[.slice a1 (wD (x / y)).length c1, .slice a2 (wD (x % y)).length c2]) ∧ Ints w' a1 c1 (wD (x / y)) ∧ Ints w' a2 c2 (wD (x % y)) ∧ Below w.heap.size w w' := by
 have CC := rcompare_any x y a b cap cap2 w hy0 hS hT
 by_cases h1 : x < y
 ·have e0 : cmpN x y = -1 := by unfold cmpN; rw [if_pos h1]
  have e1 : x / y = 0 := Nat.div_eq_of_lt h1
  have e2 : x % y = x := Nat.mod_eq_of_lt h1
  rw [e0] at CC
  rw [e1, e2]
  have HC := hid CC
  clear e0 e1 e2 CC
  go_enter Tryz.func154, Tryz.ntmps154
  go_wp2_with fail
  refine HC.out.mono ?_
  rintro e w1 ⟨rfl, b1⟩
  go_wp2_with fail
  go_ret2
  exact ⟨none, 0, a, cap, rfl, ints_nil _, hS.below b1, b1⟩
 ·have hc : 0 ≤ cmpN x y := by unfold cmpN; rw [if_neg h1]; split <;> omega
  have hxw := wD_pos (show 0 < x by omega)
  have hyw := wD_pos hy0
  rw [hxw] at hS CC ⊢
  rw [hyw] at hT CC ⊢
  have hy1 : atD 0 [(y : Int)] 0 = y := rfl
  have CD := fun w hS => rdivDigit_any x y a cap w hx hy hy0 hS
  have CT := fun a cap w hS => rtrim_any (x % y) a cap w hS
  obtain ⟨k, hk⟩ : ∃ k, k = cmpN x y := ⟨_, rfl⟩
  rw [← hk] at CC hc
  have HC := hid CC; have HD := hid CD; have HT := hid CT
  clear CC CD CT hk hxw hyw
  go_enter Tryz.func154, Tryz.ntmps154
  go_wp2_with fail
  refine HC.out.mono ?_
  rintro e w1 ⟨rfl, b1⟩
  have hT1 := hT.below b1
  go_wp2_with ((with_reducible refine wpList_idx _ 0 E_ints F_int cInt1 (by with_unfolding_all rfl) (by with_unfolding_all rfl) (hT1) (by first | omega | (simp; done)) (by first | omega | (simp; done)) (fun _ => by with_unfolding_all rfl) (fun _ => ?_)); try rw [hy1])
  refine (HD.out w1 (hS.below b1)).mono ?_
  rintro e w2 ⟨a2, c2, rfl, hq, b2⟩
  have hR := reps_new1 (w := w2) (e := 3) cIntS ((x % y : Nat) : Int) #[.int .i64 ((x % y : Nat) : Int)] (0, 0) rfl rfl
  go_wp2_with fail
  refine (HT.out _ _ _ hR).mono ?_
  rintro e w3 ⟨rfl, rfl⟩
  go_wp2_with fail
  go_ret2
  exact ⟨_, _, _, _, rfl, hq.alloc _, wd_ints hR, bal (bnext b1 b2) _⟩

theorem rcommon_any (x y : Nat) (a b : Option Addr) (cap cap2 : Nat) (w : World) (hx : x < 1000000000) (hy : y < 1000000000) (hS : Ints w a cap (wD x)) (hT : Ints w b cap2 (wD y)) :
  Calls Tryz.prog 153 #[.slice a (wD x).length cap, .slice b (wD y).length cap2] w fun r w' => ∃ a1 c1, r = .returned (.slice a1 (wD (Nat.gcd x y)).length c1) ∧ Ints w' a1 c1 (wD (Nat.gcd x y)) ∧ Below w.heap.size w w' := by
 go_enter Tryz.func153, Tryz.ntmps153
 go_wp2_with fail
 go_loopg [0, 1, 5, 6] y (fun g va vb _ _ wr => ∃ (p q : Nat) (a b : Option Addr) (ca cb : Nat), g = q ∧ va = .slice a (wD p).length ca ∧ vb = .slice b (wD q).length cb ∧ Ints wr a ca (wD p) ∧ Ints wr b cb (wD q) ∧ p < 1000000000 ∧ q < 1000000000 ∧ Aside (Nat.gcd p q = Nat.gcd x y) ∧ Below w.heap.size w wr)
 case atStart => exact ⟨x, y, a, b, cap, cap2, rfl, rfl, rfl, hS, hT, hx, hy, rfl, Below.refl _ _⟩
 case round =>
  obtain ⟨p, q, a, b, ca, cb, rfl, rfl, rfl, hSr, hTr, hp, hq, HG, hbr⟩ := hrel
  by_cases h0 : gk = 0
  ·subst h0
   have e : p = Nat.gcd x y := by rw [← HG.out, Nat.gcd_zero_right]
   have HE := hid e
   have hl : (wD 0).length ≤ 0 := Nat.le_refl _
   clear e
   go_wp2_with fail
   go_ret
   rw [← HE.out]
   exact ⟨a, ca, rfl, hSr, hbr⟩
  ·have hl : 0 < (wD gk).length := by rw [wD_pos (by omega)]; simp
   have CD := fun w hS hT => rdivDigits_any p gk a b ca cb w hp hq (by omega) hS hT
   have HD := hid CD
   clear CD
   go_wp2_with fail
   refine (HD.out wr hSr hTr).mono ?_
   rintro e w2 ⟨a1, c1, a2, c2, rfl, h1, h2, b2⟩
   have hm : p % gk < gk := Nat.mod_lt _ (by omega)
   go_wp2_with fail
   go_roundg (p % gk)
   case measure => exact hm
   case rel => exact ⟨gk, p % gk, b, a2, cb, c2, rfl, rfl, rfl, hTr.below b2, h2, hq, by omega, by show Nat.gcd gk (p % gk) = _; rw [← HG.out, Nat.gcd_comm gk, ← Nat.gcd_rec, Nat.gcd_comm], bnext hbr b2⟩

theorem rparts_any (x : Nat) (w : World) (hx : x < 1000000000) :
  Calls Tryz.prog 120 #[.string (itoaB x)] w fun r w' => ∃ a c b d, r = .returned (.tuple #[.agg #[.bool false, .slice a (wD x).length c], .agg #[.bool false, .slice b (wD 1).length d]]) ∧ Ints w' a c (wD x) ∧ Ints w' b d (wD 1) ∧ Below w.heap.size w w' := by
 have hsl := textQ_slash x 1
 rw [textQ_one] at hsl
 have hz := (itoaB_len hx).1
 have CP := fun w => rparse_any x w hx
 have CW := fun w => rwhole_any 1 w (by decide)
 obtain ⟨s, hs⟩ : ∃ s, s = itoaB (x : Int) := ⟨_, rfl⟩
 rw [← hs] at hsl hz CP ⊢
 have CS := fun w => rslash_any s s.size w hsl (by omega)
 have HP := hid CP; have HW := hid CW; have HS := hid CS
 clear CP CW CS hs hsl
 have hS0 := ((SL.nil w).box (.cells #[.bool false, .slice none 0 0] 144)).box (.cells #[.bool false, .slice none 0 0] 144)
 simp only [World.size_alloc] at hS0
 go_enter Tryz.func120, Tryz.ntmps120
 go_wp2_with fail
 refine (HS.out _).mono ?_
 rintro e w' ⟨rfl, rfl⟩
 go_wp2_with fail
 refine (HP.out _).mono ?_
 rintro e w1 ⟨a, c, rfl, h1, f1, b1⟩
 have hS1 := hS0.newRd b1 h1 (by decide) f1
 go_wp2_with fail
 refine (HW.out _).mono ?_
 rintro e w2 ⟨b, d, rfl, h2, f2, b2⟩
 have hS2 := hS1.newRd b2 h2 (by decide) f2
 clear hS0 hS1
 go_wp2_with (first | ((with_reducible refine wpList_stoR (us := #[.bool false, .slice a (wD x).length c]) 3 (by with_unfolding_all rfl) (by with_unfolding_all rfl) (hS2) (by with_unfolding_all rfl) (by kernel_rfl) (by with_unfolding_all rfl) (by with_unfolding_all rfl) ?_); intro w3 hS3) | ((with_reducible refine wpList_stoR (us := #[.bool false, .slice b (wD 1).length d]) 2 (by with_unfolding_all rfl) (by with_unfolding_all rfl) (hS3) (by with_unfolding_all rfl) (by kernel_rfl) (by with_unfolding_all rfl) (by with_unfolding_all rfl) ?_); intro w4 hS4))
 exact bodyPost_ret (results_cell2 rfl rfl rfl A_integer (by kernel_rfl) (by kernel_rfl) (hS4.blk 3 rfl).1 (hS4.blk 2 rfl).1) rfl ⟨a, c, b, d, rfl, hS4.rdR 1 rfl, hS4.rdR 0 rfl, hS4.b⟩

theorem rfraction_any (x y : Nat) (a b : Option Addr) (c d : Nat) (w : World) (hx : x < 1000000000) (hy : y < 1000000000) (hx0 : 0 < x) (hy0 : 0 < y) (hS : Ints w a c (wD x)) (hT : Ints w b d (wD y)) :
  Calls Tryz.prog 121 #[.agg #[.bool false, .slice a (wD x).length c], .agg #[.bool false, .slice b (wD y).length d]] w fun r w' => r = .returned (.string (textQ (x / Nat.gcd x y) (y / Nat.gcd x y))) ∧ Below w.heap.size w w' := by
 have hg0 : 0 < Nat.gcd x y := Nat.gcd_pos_of_pos_left _ hx0
 have hgx : Nat.gcd x y ≤ x := Nat.gcd_le_left _ hx0
 have CC := fun w hS hT => rcommon_any x y a b c d w hx hy hS hT
 obtain ⟨g, hg⟩ : ∃ g, g = Nat.gcd x y := ⟨_, rfl⟩
 rw [← hg] at hg0 hgx CC ⊢
 have hp0 : 0 < x / g := by rw [hg]; exact Nat.div_pos (Nat.gcd_le_left _ hx0) (Nat.gcd_pos_of_pos_left _ hx0)
 have hq0 : 0 < y / g := by rw [hg]; exact Nat.div_pos (Nat.gcd_le_right _ hy0) (Nat.gcd_pos_of_pos_left _ hx0)
 have hp1 : x / g ≤ x := Nat.div_le_self _ _
 have hq1 : y / g ≤ y := Nat.div_le_self _ _
 have CD1 := fun a1 c1 w hS hT => rdivDigits_any x g a a1 c c1 w hx (by omega) hg0 hS hT
 have CD2 := fun a1 c1 w hS hT => rdivDigits_any y g b a1 d c1 w hy (by omega) hg0 hS hT
 obtain ⟨p, hp⟩ : ∃ p, p = x / g := ⟨_, rfl⟩
 obtain ⟨q, hq⟩ : ∃ q, q = y / g := ⟨_, rfl⟩
 rw [← hp] at hp0 hp1 CD1 ⊢
 rw [← hq] at hq0 hq1 CD2 ⊢
 have hpw := wD_pos hp0
 have hqw := wD_pos hq0
 rw [hpw] at CD1
 rw [hqw] at CD2
 have CG1 := fun a c w hS => rsigned_any p a c w hS
 have CG2 := fun a c w hS => rsigned_any q a c w hS
 have CT1 := fun v w hv => rtext_any p v w (by omega) hv
 have CT2 := fun v w hv => rtext_any q v w (by omega) hv
 have hzp := (itoaB_len (show p < 1000000000 by omega)).1
 have hzq := (itoaB_len (show q < 1000000000 by omega)).1
 have HC := hid CC; have HD1 := hid CD1; have HD2 := hid CD2; have HG1 := hid CG1; have HG2 := hid CG2; have HT1 := hid CT1; have HT2 := hid CT2
 clear CC CD1 CD2 CG1 CG2 CT1 CT2 hpw hqw hp hq hg
 have hS0 := ((SL.nil w).box (.cells #[.bool false, .slice a (wD x).length c] 144)).box (.cells #[.bool false, .slice b (wD y).length d] 144)
 simp only [World.size_alloc] at hS0
 go_enter Tryz.func121, Tryz.ntmps121
 go_wp2_with fail
 refine (HC.out _ (hS.below hS0.b) (hT.below hS0.b)).mono ?_
 rintro e w1 ⟨a1, c1, rfl, h1, b1⟩
 have hS1 := hS0.mono b1
 have k1 := hS1.cell 1 rfl 1 rfl
 go_wp2_with fail
 refine (HD1.out a1 c1 w1 (hS.below hS1.b) h1).mono ?_
 rintro e w2 ⟨a2, c2, a3, c3, rfl, h2, h3, b2⟩
 have hS2 := hS1.mono b2
 have h12 := h1.below b2
 have k2 := hS2.cell 0 rfl 1 rfl
 clear k1 h3
 go_wp2_with fail
 refine (HD2.out a1 c1 w2 (hT.below hS2.b) h12).mono ?_
 rintro e w3 ⟨a4, c4, a5, c5, rfl, h4, h5, b3⟩
 have hS3 := hS2.mono b3
 have k3 := hS3.cell 1 rfl 0 rfl
 clear k2 h5
 go_wp2_with fail
 refine (HG1.out a2 c2 w3 (h2.below b3)).mono ?_
 rintro e w4 ⟨rfl, b4⟩
 go_wp2_with fail
 refine (HT1.out _ w4 ⟨a2, c2, rfl, wd_ints ((h2.below b3).below b4)⟩).mono ?_
 rintro e w5 ⟨rfl, b5⟩
 have hS5 := (hS3.mono b4).mono b5
 have h45 := (h4.below b4).below b5
 clear k3 h2 h12 h1 h4
 have hq1' : atD 0 [(q : Int)] 0 = q := rfl
 by_cases e1 : q = 1
 ·subst e1
  have HTQ := hid (textQ_one p)
  go_wp2_with ((with_reducible refine wpList_idxG 0 E_ints F_int cInt1 (by with_unfolding_all rfl) (by with_unfolding_all rfl) (h45) (rfl) (by first | omega | (simp; done)) (by first | omega | (simp; done)) (fun _ => by with_unfolding_all rfl) (by with_unfolding_all rfl) (fun _ => by with_unfolding_all rfl) (fun _ => ?_)); try rw [hq1'])
  go_ret
  exact ⟨by rw [HTQ.out]; rfl, hS5.b⟩
 ·have hd : ((q : Int) == 1) = false := by simp; omega
  have ht : textQ p q = itoaB (p : Int) ++ ⟨#[47]⟩ ++ itoaB (q : Int) := by unfold textQ; rw [if_neg e1]
  have HTQ := hid ht; clear ht
  go_wp2_with ((with_reducible refine wpList_idxG 0 E_ints F_int cInt1 (by with_unfolding_all rfl) (by with_unfolding_all rfl) (h45) (rfl) (by first | omega | (simp; done)) (by first | omega | (simp; done)) (fun _ => by with_unfolding_all rfl) (by with_unfolding_all rfl) (fun _ => by with_unfolding_all rfl) (fun _ => ?_)); try rw [hq1'])
  refine (HG2.out a4 c4 w5 h45).mono ?_
  rintro e w6 ⟨rfl, b6⟩
  go_wp2_with fail
  refine (HT2.out _ w6 ⟨a4, c4, rfl, wd_ints (h45.below b6)⟩).mono ?_
  rintro e w7 ⟨rfl, b7⟩
  go_wp2_with fail
  go_ret
  exact ⟨by rw [HTQ.out]; rfl, ((hS5.mono b6).mono b7).b⟩
end Go.Proofs.YtbchpkmcpplidaaGreatDoor

namespace Go.Proofs.YtbchpkmcpplidaaGreatDoor
open Go.RowKit
set_option maxHeartbeats 4000000
set_option maxRecDepth 100000

end Go.Proofs.YtbchpkmcpplidaaGreatDoor

namespace Go.Proofs.YtbchpkmcpplidaaGreatDoor
open Go.RowKit
set_option maxHeartbeats 4000000
set_option maxRecDepth 100000

theorem rCycles_any (a : Option Addr) (cap : Nat) (p : List Int) (w : World) (hS : Ints w a cap p) (hp : IsP p) (hn : p.length ≤ 100000) :
  Calls Tryz.prog 18 #[.slice a p.length cap] w fun r w' => ∃ (v : Value) (qs : List (SlH × List Int)), r = .returned v ∧ qs.map Prod.snd = cycK p p.length ∧ SL w.heap.size w w' (pOwn cSl 1 22 v (qs.map Prod.fst) :: qs.map inP) := by
 have hcap := hS.le
 have hm0 := hS.max
 have hS0 := SL.nil w
 go_enter Tryz.func18, Tryz.ntmps18
 go_wp2_with ((with_reducible refine wpList_makeL (c := cBool) (p.length) (false) E_bools cBool1 (by with_unfolding_all rfl) (by with_unfolding_all rfl) (by omega) (by omega) (hS0) ?_); intro ad w1 hS1)
 have hS2 := hS1.nilS (α := SlH) (c := cSl) (sz := 1) (e := 22) cSlS
 go_loopw [3, 5, 6, 7] (fun ov i _ _ wr => ∃ (j : Nat) (S : List Bool) (qs : List (SlH × List Int)), j ≤ p.length ∧ i = .int .i64 j ∧ S.length = p.length ∧ (∀ x : Int, 0 ≤ x → x < p.length → atD false S x = decide (x ∈ (cycK p j).flatten)) ∧ qs.map Prod.snd = cycK p j ∧ SL w.heap.size w wr (pOwn cSl 1 22 ov (qs.map Prod.fst) :: pOwn cBool 1 4 (.slice ad p.length p.length) S :: qs.map inP)) (fun _ i _ _ _ => p.length - (intOf i).toNat)
 case atStart =>
  refine ⟨0, List.replicate p.length false, [], by omega, rfl, by simp, fun x h0 h1 => ?_, rfl, hS2⟩
  have : x.toNat < p.length := by omega
  simp [atD, cycK, this]
 case round =>
  obtain ⟨j, S, qs, hj, rfl, hlen, hsn, hqs, hSL⟩ := hrel
  have HSN := hid hsn; have HL := hid hlen; have HQ := hid hqs
  have hql : qs.length ≤ j := by have := cycK_len p j; rw [← hqs] at this; simpa using this
  have hqlen : (qs.map Prod.fst).length ≤ 100000 := by simp; omega
  clear hsn hlen hqs
  by_cases hlt : j < p.length
  ·have hj0 : (0 : Int) ≤ j := by omega
   have hj1 : (j : Int) < p.length := by omega
   by_cases hin : (j : Int) ∈ (cycK p j).flatten
   ·have hsk := HSN.out j hj0 hj1
    rw [decide_eq_true hin] at hsk
    have HSK := hid hsk; have HIN := hid hin
    clear hsk hin
    go_wp2_with fail
    go_loopw [6, 7] (fun cv kv wq => cv = .slice none 0 0 ∧ kv = .int .i64 j ∧ wr = wq) (fun _ _ _ => 0)
    case atStart => exact ⟨rfl, rfl, rfl⟩
    case round =>
     obtain ⟨rfl, rfl, rfl⟩ := hrel
     have hRB := hSL.rd 1 rfl
     go_wp2_with ((with_reducible refine wpList_idxN _ false E_bools F_bool cBool1 (by with_unfolding_all rfl) (by with_unfolding_all rfl) (hRB) (HL.out) (by first | omega | (simp; done)) (by first | omega | (simp; done)) (fun _ => by with_unfolding_all rfl) (fun _ => ?_)); rw [HSK.out])
     refine ⟨⟨j + 1, S, qs, by omega, by go_num, HL.out, ?_, ?_, hSL⟩, by simp [intOf]; omega⟩
     ·rw [cycK_in HIN.out]; exact HSN.out
     ·rw [cycK_in HIN.out]; exact HQ.out
   ·obtain ⟨d, hd⟩ := ord_ex hp hj0 hj1
    have hd0 := hd.pos
    have hd1 := hd.le
    have HIN := hid hin; have HD := hid hd
    clear hin hd
    go_wp2_with fail
    have hSc := hSL.nilS (α := Int) (c := cInt) (sz := 1) (e := 3) cIntS
    go_loopw [6, 7] (fun cv kv wq => ∃ m : Nat, m ≤ d ∧ kv = .int .i64 (itP p j m) ∧ lenV cv = m ∧ SL w.heap.size w wq (pOwn cInt 1 3 cv (orbK p j m) :: pOwn cSl 1 22 u3 (qs.map Prod.fst) :: pOwn cBool 1 4 (.slice ad p.length p.length) (markL S (orbK p j m)) :: qs.map inP)) (fun cv _ _ => d - lenV cv)
    case atStart => exact ⟨0, by omega, rfl, rfl, hSc⟩
    case round =>
     clear hSc
     obtain ⟨m, hm, rfl, hlv, hSq⟩ := hrel
     have HLV := hid hlv; clear hlv
     have hml := markL_len S (orbK p j m)
     rw [HL.out] at hml
     have hol := orbK_len p j m
     have hole : (orbK p j m).length ≤ 100000 := by rw [hol]; omega
     obtain ⟨x0, x1⟩ := itP_rng hp hj0 hj1 m
     have hin2 : ∀ x ∈ orbK p j m, 0 ≤ x ∧ x < S.length := by
      intro x hx
      obtain ⟨i, _, rfl⟩ := List.mem_map.1 hx
      rw [HL.out]; exact itP_rng hp hj0 hj1 i
     have hat := markL_at (orbK p j m) S hin2 (itP p j m) x0
     rw [HSN.out _ x0 x1] at hat
     have hsuc := orbK_succ p j m
     have hmk := markL_snoc S (orbK p j m) (itP p j m)
     rw [← hsuc] at hmk
     have hSr := hS.below hSq.b
     have hRB := hSq.rd 2 rfl
     have HML := hid hml; have HSU := hid hsuc; have HMK := hid hmk; have HOL := hid hol
     obtain ⟨X, hX⟩ : ∃ X, X = itP p j m := ⟨_, rfl⟩
     have hnx : atD 0 p X = itP p j (m + 1) := by rw [hX]; rfl
     have HNX := hid hnx
     by_cases hmd : m < d
     ·have hf1 := orbK_out hp hlt HIN.out HD.out hm
      have hf2 := orbK_new hp hj0 hj1 HD.out hmd
      rw [decide_eq_false hf1, decide_eq_false hf2] at hat
      have HAT := hid hat
      clear hat hf1 hf2 hin2 hml hsuc hmk hol hnx
      rw [← hX] at HAT HSU HMK x0 x1 ⊢
      clear hX
      have hxm : X < (markL S (orbK p j m)).length := by rw [HML.out]; exact x1
      go_wp2_with (first | ((with_reducible refine wpList_idxN _ false E_bools F_bool cBool1 (by with_unfolding_all rfl) (by with_unfolding_all rfl) (hRB) (HML.out) (by first | omega | (simp; done)) (by first | omega | (simp; done)) (fun _ => by with_unfolding_all rfl) (fun _ => ?_)); rw [HAT.out]) | ((with_reducible refine wpList_storeL (u := true) 2 E_bools cBool1 (sto_bool) (by with_unfolding_all rfl) (by with_unfolding_all rfl) (hSq) (by with_unfolding_all rfl) (by first | omega | (simp; done) | (simp; omega)) (by first | omega | (simp; done) | (simp; omega)) (fun _ => by with_unfolding_all rfl) (fun _ => by with_unfolding_all rfl) ?_); intro _ w3 hS3) | ((with_reducible refine wpList_pushL (y := X) 0 E_ints (by with_unfolding_all rfl) (by with_unfolding_all rfl) (hS3) (by with_unfolding_all rfl) cIntO ⟨rfl, rfl⟩ (by first | with_unfolding_all rfl | simp) (by with_unfolding_all rfl) (by first | omega | (simp; omega)) (by first | omega | (simp; omega)) ?_); intro v4 w4 hS4) | (with_reducible refine wpList_idx _ 0 E_ints F_int cInt1 (by with_unfolding_all rfl) (by with_unfolding_all rfl) ((hS.below hS4.b)) (by first | omega | (simp; done)) (by first | omega | (simp; done)) (fun _ => by with_unfolding_all rfl) (fun _ => ?_)))
      obtain ⟨a4, c4, e4, _⟩ := hS4.slice 0 rfl
      have hl4 : lenV v4 = m + 1 := by rw [e4]; show (orbK p j m ++ [X]).length = m + 1; rw [List.length_append, HOL.out]; rfl
      refine ⟨⟨m + 1, hmd, by rw [HNX.out], hl4, by rw [HSU.out, markL_snoc]; exact hS4⟩, ?_⟩
      rw [hl4, HLV.out]
      omega
     ·have : m = d := by omega
      subst this
      have hmem : itP p j m ∈ orbK p j m := by rw [HD.out.back]; exact List.mem_map.2 ⟨0, by simp [hd0], rfl⟩
      rw [decide_eq_true hmem, Bool.or_true] at hat
      have HAT := hid hat
      have hmarks : ∀ x : Int, 0 ≤ x → x < p.length → atD false (markL S (orbK p j m)) x = decide (x ∈ (cycK p (j + 1)).flatten) := by
       intro x h0 h1
       rw [markL_at (orbK p j m) S hin2 x h0, HSN.out x h0 h1, cycK_out HIN.out, orb_eq HD.out]
       simp [orbK]
      have HMARK := hid hmarks
      clear hat hmem hin2 hml hsuc hmk hol hnx hX hmarks x0 x1
      obtain ⟨al, cl, rfl, _⟩ := hSq.slice 0 rfl
      have hxd : itP p j m = j := HD.out.back
      have HXD := hid hxd; clear hxd
      have hjm : (j : Int) < (markL S (orbK p j m)).length := by rw [HML.out]; exact hj1
      rw [HXD.out] at HAT ⊢
      have hop : 0 < (orbK p j m).length := by rw [HOL.out]; exact hd0
      go_wp2_with (first | ((with_reducible refine wpList_idxN _ false E_bools F_bool cBool1 (by with_unfolding_all rfl) (by with_unfolding_all rfl) (hRB) (HML.out) (by first | omega | (simp; done)) (by first | omega | (simp; done)) (fun _ => by with_unfolding_all rfl) (fun _ => ?_)); rw [HAT.out]) | ((with_reducible refine wpList_pushL (y := ((al, (orbK p j m).length, cl) : SlH)) 1 E_sls (by with_unfolding_all rfl) (by with_unfolding_all rfl) (hSq) (by with_unfolding_all rfl) cSlO ⟨rfl, rfl⟩ (by first | with_unfolding_all rfl | simp) (by with_unfolding_all rfl) (by first | omega | (simp; omega)) (by first | omega | (simp; omega)) ?_); intro v4 w4 hP))
      refine ⟨⟨j + 1, markL S (orbK p j m), qs ++ [((al, (orbK p j m).length, cl), orbK p j m)], by omega, by go_num, HML.out, HMARK.out, ?_, ?_⟩, by simp [intOf]; omega⟩
      ·rw [List.map_append, HQ.out, cycK_out HIN.out, orb_eq HD.out]; rfl
      ·refine hP.perm ?_
       rw [List.map_append, List.map_append]
       exact List.perm_append_comm (l₁ := [_])
  ·have : j = p.length := by omega
   subst this
   clear hqlen
   go_wp2_with fail
   go_ret
   refine ⟨_, qs, rfl, HQ.out, ?_⟩
   exact (SL.comm (K := [_]) (L := qs.map inP) (SL.pickA (K := [_, _]) (M := qs.map inP) hSL [0] (by decide) (by simp) [_] rfl)).comm
end Go.Proofs.YtbchpkmcpplidaaGreatDoor

namespace Go.Proofs.YtbchpkmcpplidaaGreatDoor
open Go.RowKit
set_option maxHeartbeats 2000000
set_option maxRecDepth 100000

theorem rReciprocal_any (x : Nat) (w : World) (hx : x < 1000000000) (h0 : 0 < x) :
  Calls Tryz.prog 124 #[.string (itoaB x)] w fun r w' => r = .returned (.string (textQ 1 x)) ∧ Below w.heap.size w w' := by
 have CP := fun w => rparts_any x w hx
 have CF := fun a b c d w hS hT => rfraction_any 1 x a b c d w (by decide) hx (by decide) h0 hS hT
 rw [Nat.gcd_one_left, Nat.div_one, Nat.div_one] at CF
 have HP := hid CP; have HF := hid CF
 clear CP CF
 go_enter Tryz.func124, Tryz.ntmps124
 go_wp2_with fail
 refine (HP.out w).mono ?_
 rintro e w1 ⟨a, c, b, d, rfl, h1, h2, b1⟩
 have hS0 := ((SL.nil w1).box (.cells #[.bool false, .slice none 0 0] 144)).box (.cells #[.bool false, .slice none 0 0] 144)
 simp only [World.size_alloc] at hS0
 go_wp2_with (first | ((with_reducible refine wpList_stoR (us := #[.bool false, .slice a (wD x).length c]) 1 (by with_unfolding_all rfl) (by with_unfolding_all rfl) (hS0) (by with_unfolding_all rfl) (by kernel_rfl) (by with_unfolding_all rfl) (by with_unfolding_all rfl) ?_); intro w3 hS3) | ((with_reducible refine wpList_stoR (us := #[.bool false, .slice b (wD 1).length d]) 0 (by with_unfolding_all rfl) (by with_unfolding_all rfl) (hS3) (by with_unfolding_all rfl) (by kernel_rfl) (by with_unfolding_all rfl) (by with_unfolding_all rfl) ?_); intro w4 hS4) | (with_reducible refine wpList_ldS (n := 2) (us := #[.bool false, .slice b (wD 1).length d]) A_integer (by kernel_rfl) (by with_unfolding_all rfl) (by with_unfolding_all rfl) (hS4.blk 0 rfl).1 (by with_unfolding_all rfl) (by with_unfolding_all rfl) ?_) | (with_reducible refine wpList_ldS (n := 2) (us := #[.bool false, .slice a (wD x).length c]) A_integer (by kernel_rfl) (by with_unfolding_all rfl) (by with_unfolding_all rfl) (hS4.blk 1 rfl).1 (by with_unfolding_all rfl) (by with_unfolding_all rfl) ?_))
 refine (HF.out b a d c w4 (h2.below hS4.b) (h1.below hS4.b)).mono ?_
 rintro e w5 ⟨rfl, b5⟩
 go_wp2_with fail
 go_ret
 exact ⟨rfl, bnext b1 (bnext hS4.b b5)⟩

theorem rgcdL_any (x y : Int) (w : World) (hx : 0 ≤ x) (hx2 : x ≤ 4611686018427387904) (hy : 0 ≤ y) (hy2 : y ≤ 4611686018427387904) :
  Calls Tryz.prog 150 #[.int .i64 x, .int .i64 y] w fun r w' => r = .returned (.int .i64 (Int.gcd x y)) ∧ Below w.heap.size w w' := by
 go_enter Tryz.func150, Tryz.ntmps150
 go_wp2
 go_loopw [0, 1] (fun p q wr => ∃ a b : Int, p = .int .i64 a ∧ q = .int .i64 b ∧ 0 ≤ a ∧ a ≤ 4611686018427387904 ∧ 0 ≤ b ∧ b ≤ 4611686018427387904 ∧ Int.gcd a b = Int.gcd x y ∧ Below w.heap.size w wr) (fun _ q _ => (intOf q).toNat)
 case atStart => exact ⟨x, y, rfl, rfl, hx, hx2, hy, hy2, rfl, Below.refl _ _⟩
 case round =>
  obtain ⟨a, b, rfl, rfl, ha, ha2, hb, hb2, hg, hbr⟩ := hrel
  have HG := hid hg; clear hg
  by_cases hlt : 0 < b
  ·have hm0 := Int.emod_nonneg a (by omega : b ≠ 0)
   have hm1 := Int.emod_lt_of_pos a hlt
   have hne : ¬ b = 0 := by omega
   have hwr : IntKind.i64.wrap (a.tmod b) = a % b := by rw [Int.tmod_eq_emod_of_nonneg ha]; exact IntWalk.i64_in _ (by omega)
   go_wp2_with fail
   refine wp_region_quiet_lit (by kernel_rfl) (by kernel_rfl) ?_
   repeat (first | fail | quiet_step (fail))
   refine wpQuiet_nil ?_
   intro w2 hb2
   replace hb2 := below_drewN hb2
   clear hwr
   go_wp2_with fail
   rw [Int.tmod_eq_emod_of_nonneg (b := b) ha]
   refine ⟨⟨b, a % b, rfl, rfl, by omega, by omega, by omega, by omega, ?_, bnext hbr hb2⟩, by simp [intOf]; omega⟩
   rw [← HG.out, gcd_step ha hb]
  ·have : b = 0 := by omega
   subst this
   have hfin : a = Int.gcd x y := by
    rw [← HG.out, Int.gcd_zero]; omega
   have HF := hid hfin; clear hfin
   go_wp2_with fail
   go_ret
   exact ⟨by rw [← HF.out]; rfl, hbr⟩

theorem rOf_any (x y : Nat) (w : World) (hx : x < 1000000000000000000) (hy : y < 1000000000000000000) (hy0 : 0 < y) :
  Calls Tryz.prog 119 #[.int .i64 x, .int .i64 y] w fun r w' => r = .returned (.string (textQ (x / Nat.gcd x y) (y / Nat.gcd x y))) ∧ Below w.heap.size w w' := by
 have CG := fun w => rgcdL_any x y w (by omega) (by omega) (by omega) (by omega)
 have eg : ((Int.gcd (x : Int) (y : Int) : Nat) : Int) = ((Nat.gcd x y : Nat) : Int) := rfl
 rw [eg] at CG
 have hg0 : 0 < Nat.gcd x y := Nat.gcd_pos_of_pos_right _ hy0
 have hgy : Nat.gcd x y ≤ y := Nat.gcd_le_right _ hy0
 have hq0 : 0 < y / Nat.gcd x y := Nat.div_pos hgy hg0
 obtain ⟨g, hg⟩ : ∃ g, g = Nat.gcd x y := ⟨_, rfl⟩
 rw [← hg] at CG hg0 hgy hq0 ⊢
 have hp1 : x / g ≤ x := Nat.div_le_self _ _
 have hq1 : y / g ≤ y := Nat.div_le_self _ _
 have tp : (x : Int).tdiv g = (x : Int) / g := Int.tdiv_eq_ediv_of_nonneg (by omega)
 have tq : (y : Int).tdiv g = (y : Int) / g := Int.tdiv_eq_ediv_of_nonneg (by omega)
 have ep : (x : Int) / g = ((x / g : Nat) : Int) := rfl
 have eq : (y : Int) / g = ((y / g : Nat) : Int) := rfl
 obtain ⟨p, hp⟩ : ∃ p, p = x / g := ⟨_, rfl⟩
 obtain ⟨q, hq⟩ : ∃ q, q = y / g := ⟨_, rfl⟩
 rw [← hp] at ep hp1 ⊢
 rw [← hq] at eq hq1 hq0 ⊢
 have ewp : IntKind.i64.wrap ((x : Int) / g) = (x : Int) / g := by rw [ep]; exact IntWalk.i64_in _ (by omega)
 have ewq : IntKind.i64.wrap ((y : Int) / g) = (y : Int) / g := by rw [eq]; exact IntWalk.i64_in _ (by omega)
 have CP := fun w => rdecimal_any p w (by omega)
 have CQ := fun w => rdecimal_any q w (by omega)
 have hzp : (itoaB (p : Int)).size ≤ 18 := by have := decD_len 17 p (by omega); rw [itoaB_bT, bT_size]; exact this
 have hzq : (itoaB (q : Int)).size ≤ 18 := by have := decD_len 17 q (by omega); rw [itoaB_bT, bT_size]; exact this
 have hm1 : max (x : Int) (-(x : Int)) = x := by omega
 have hm2 : max (p : Int) (-(p : Int)) = p := by omega
 have hn1 : ¬ (x : Int) < -x := by omega
 have hn2 : ¬ (p : Int) < -p := by omega
 have hgn : ¬ (g : Int) = 0 := by omega
 have hgn2 : ¬ g = 0 := by omega
 have HG := hid CG; have HP := hid CP; have HQ := hid CQ; have EP := hid ep; have EQ := hid eq
 clear CG CP CQ ep eq hp hq hg eg
 have he : (⟨#[]⟩ : ByteArray) ++ itoaB (p : Int) = itoaB (p : Int) := by rw [itoaB_bT, show (⟨#[]⟩ : ByteArray) = bT [] from rfl, bT_app]; rfl
 go_enter Tryz.func119, Tryz.ntmps119
 go_wp2_with fail
 refine (HG.out _).mono ?_
 rintro e w1 ⟨rfl, b1⟩
 go_wp2_with fail
 refine wp_region_quiet_lit (by kernel_rfl) (by kernel_rfl) ?_
 repeat (first  | quiet_step (fail))
 refine wpQuiet_nil ?_
 intro w2 b2
 replace b2 := below_drewN b2
 clear ewp ewq tp tq
 rw [EP.out, EQ.out]
 have t2 := bnext b1 b2
 go_wp2_with fail
 refine (HP.out _).mono ?_
 rintro e w' ⟨rfl, rfl⟩
 by_cases h1 : q = 1
 ·subst h1
  have HTQ := hid (textQ_one p)
  go_wp2_with fail
  go_ret
  exact ⟨by rw [HTQ.out]; first | rfl | (rw [← he]; rfl), t2⟩
 ·have h1' : (1 : Int) < q := by omega
  have ht : textQ p q = itoaB (p : Int) ++ ⟨#[47]⟩ ++ itoaB (q : Int) := by unfold textQ; rw [if_neg h1]
  have HTQ := hid ht; clear ht
  go_wp2_with fail
  refine (HQ.out _).mono ?_
  rintro e w' ⟨rfl, rfl⟩
  go_wp2_with fail
  go_ret
  exact ⟨by rw [HTQ.out]; first | rfl | (rw [← he]; rfl), t2⟩

theorem rMul_any (p q r s : Nat) (w : World) (hp : p < 1000000000) (hq : q < 1000000000) (hr : r < 1000000000) (hs : s < 1000000000) (hq0 : 0 < q) (hs0 : 0 < s) :
  Calls Tryz.prog 68 #[.string (textQ p q), .string (textQ r s)] w fun e w' => e = .returned (.string (textQ (p * r / Nat.gcd (p * r) (q * s)) (q * s / Nat.gcd (p * r) (q * s)))) ∧ Below w.heap.size w w' := by
 have h1 : p * r < 1000000000000000000 := by
  have := Nat.mul_le_mul (show p ≤ 999999999 by omega) (show r ≤ 999999999 by omega); omega
 have h2 : q * s < 1000000000000000000 := by
  have := Nat.mul_le_mul (show q ≤ 999999999 by omega) (show s ≤ 999999999 by omega); omega
 have h3 : 0 < q * s := Nat.mul_pos hq0 hs0
 have CA := fun w => rquick_any p q w hp hq
 have CB := fun w => rquick_any r s w hr hs
 have CO := fun w => rOf_any (p * r) (q * s) w h1 h2 h3
 have e1 : ((p * r : Nat) : Int) = (p : Int) * r := Int.natCast_mul _ _
 have e2 : ((q * s : Nat) : Int) = (q : Int) * s := Int.natCast_mul _ _
 rw [e1, e2] at CO
 have b1 : 0 ≤ (p : Int) * r ∧ (p : Int) * r < 1000000000000000000 := by rw [← e1]; omega
 have b2 : 0 ≤ (q : Int) * s ∧ (q : Int) * s < 1000000000000000000 := by rw [← e2]; omega
 have w1 : IntKind.i64.wrap ((p : Int) * r) = (p : Int) * r := IntWalk.i64_in _ (by omega)
 have w2 : IntKind.i64.wrap ((q : Int) * s) = (q : Int) * s := IntWalk.i64_in _ (by omega)
 have HA := hid CA; have HB := hid CB; have HO := hid CO
 clear CA CB CO e1 e2 b1 b2
 go_enter Tryz.func68, Tryz.ntmps68
 go_wp2_with fail
 refine (HA.out w).mono ?_
 rintro e w' ⟨rfl, rfl⟩
 go_wp2_with fail
 refine (HB.out w).mono ?_
 rintro e w' ⟨rfl, rfl⟩
 go_wp2_with fail
 refine (HO.out w).mono ?_
 rintro e w5 ⟨rfl, b5⟩
 go_wp2_with fail
 go_ret
 exact ⟨rfl, b5⟩
theorem rNum_any (p q : Nat) (w : World) (hp : p < 1000000000) (hq : q < 1000000000) :
  Calls Tryz.prog 69 #[.string (textQ p q)] w fun e w' => e = .returned (.string (itoaB p)) ∧ Below w.heap.size w w' := by
 obtain ⟨z1, z2⟩ := textQ_size hp hq
 have CS := fun w => rslash_any (textQ p q) (itoaB (p : Int)).size w (textQ_slash p q) (by omega)
 have hle := (textQ_slash p q).le
 have HN := hid (textQ_num p q)
 obtain ⟨k, hk⟩ : ∃ k, k = (itoaB (p : Int)).size := ⟨_, rfl⟩
 rw [← hk] at CS hle HN
 have HS := hid CS
 clear CS hk
 go_enter Tryz.func69, Tryz.ntmps69
 go_wp2_with fail
 refine (HS.out w).mono ?_
 rintro e w' ⟨rfl, rfl⟩
 go_wp2_with fail
 go_ret
 exact ⟨by rw [← HN.out]; rfl, Below.refl _ _⟩
theorem rDiv_any (p n : Nat) (w : World) (hp : p < 1000000000) (hn : n < 1000000000) (hn0 : 0 < n) :
  Calls Tryz.prog 70 #[.string (itoaB p), .string (itoaB n)] w fun e w' => e = .returned (.string (textQ (p / Nat.gcd p n) (n / Nat.gcd p n))) ∧ Below w.heap.size w w' := by
 have CR := fun w => rReciprocal_any n w hn hn0
 have CM := fun w => rMul_any p 1 1 n w hp (by omega) (by omega) hn (by omega) hn0
 rw [textQ_one, Nat.mul_one, Nat.one_mul] at CM
 have HR := hid CR; have HM := hid CM; clear CR CM
 go_enter Tryz.func70, Tryz.ntmps70
 go_wp2_with fail
 refine (HR.out w).mono ?_
 rintro e w1 ⟨rfl, b1⟩
 go_wp2_with fail
 refine (HM.out w1).mono ?_
 rintro e w2 ⟨rfl, b2⟩
 go_wp2_with fail
 go_ret
 exact ⟨rfl, bnext b1 b2⟩
end Go.Proofs.YtbchpkmcpplidaaGreatDoor

namespace Go.Proofs.YtbchpkmcpplidaaGreatDoor
open Go.RowKit
set_option maxHeartbeats 2000000
set_option maxRecDepth 100000

theorem rPeriod_any (a : Option Addr) (cap : Nat) (p : List Int) (w : World) (hS : Ints w a cap p) (hp : IsP p) (h64 : p.length ≤ 64) :
  Calls Tryz.prog 19 #[.slice a p.length cap] w fun r w' => r = .returned (.string (itoaB (periodN p))) ∧ Below w.heap.size w w' := by
 have CY := fun w hS => rCycles_any a cap p w hS hp (by omega)
 have CF := fun n w hn => rFromInt_any n w hn
 have CD := fun p n w hp hn hn0 => rDiv_any p n w hp hn hn0
 have CN := fun p q w hp hq => rNum_any p q w hp hq
 have CM := fun p r w hp hr => rMul_any p 1 r 1 w hp (by decide) hr (by decide) (by decide) (by decide)
 have HY := hid CY; have HF := hid CF; have HD := hid CD; have HN := hid CN; have HM := hid CM
 clear CY CF CD CN CM
 have hcap := hS.le
 have hm0 := hS.max
 have h1B : itoaB (1 : Int) = ⟨#[49]⟩ := by
  have := itoaB_nat 1
  rw [decD_small (by decide)] at this
  exact this
 go_enter Tryz.func19, Tryz.ntmps19
 go_wp2_with fail
 refine (HY.out _ hS).mono ?_
 rintro e w3 ⟨v, qs, rfl, hqs, hS0⟩
 obtain ⟨av, cv, rfl, _⟩ := hS0.slice 0 rfl
 have hlq : lensQ qs = (cycK p p.length).map List.length := by rw [← hqs]; simp [lensQ]
 have hsum : (lensQ qs).sum ≤ 64 := by rw [hlq]; exact Nat.le_trans (cycK_sum hp (Nat.le_refl _)) h64
 have hpos : ∀ n ∈ lensQ qs, 0 < n := by
  rw [hlq]; intro n hn
  obtain ⟨l, hl, rfl⟩ := List.mem_map.1 hn
  exact cycK_pos hp (Nat.le_refl _) l hl
 have hper : periodN p = perF (lensQ qs) := by rw [hlq]; rfl
 have hnq : qs.length ≤ 64 := by
  have h1 := cycK_len p p.length
  have h2 : (lensQ qs).length = (cycK p p.length).length := by rw [hlq]; simp
  rw [lens_len] at h2; omega
 have HPER := hid hper; have HPOS := hid hpos; have HQL : Hid ((qs.map Prod.fst).length = qs.length) := hid (by simp)
 have HQL2 : Hid (qs.length = (qs.map Prod.fst).length) := hid (by simp)
 have H1B := hid h1B
 clear hper hpos hlq hqs h1B
 rw [HQL.out]
 go_wp2_with fail
 go_loopw [3, 5, 6] (fun ov i _ wr => ∃ k : Nat, k ≤ qs.length ∧ i = .int .i64 k ∧ ov = .string (itoaB ((perF ((lensQ qs).take k) : Nat) : Int)) ∧
   SL w.heap.size w wr (pOwn cSl 1 22 (.slice av qs.length cv) (qs.map Prod.fst) :: qs.map inP)) (fun _ i _ _ => qs.length - (intOf i).toNat)
 case atStart => exact ⟨0, by omega, rfl, by rw [show perF ((lensQ qs).take 0) = 1 from rfl, show (((1 : Nat) : Int)) = 1 from rfl, H1B.out], by rw [← HQL.out]; rw [HQL.out]; simpa using hS0⟩
 case round =>
  clear hS0
  obtain ⟨k, hk, rfl, rfl, hSr⟩ := hrel
  have hRq := hSr.rd 0 rfl
  by_cases hlt : k < qs.length
  ·have hlk : k < (lensQ qs).length := by rw [lens_len]; exact hlt
   have hpt := perF_take hlk
   obtain ⟨P0, hP0⟩ : ∃ P0, P0 = perF ((lensQ qs).take k) := ⟨_, rfl⟩
   obtain ⟨n, hn⟩ : ∃ n, n = (lensQ qs)[k] := ⟨_, rfl⟩
   have hn0 : 0 < n := by rw [hn]; exact HPOS.out _ (List.getElem_mem hlk)
   have hn1 : n ≤ 64 := by
    have h1 := sum_take_le (lensQ qs) (k + 1)
    rw [List.take_succ_eq_append_getElem hlk, List.sum_append] at h1
    rw [hn]; simp at h1; omega
   have hp1 : P0 < 100000000 := by rw [hP0]; exact perF_small _ (fun m hm => HPOS.out m (List.mem_of_mem_take hm)) (Nat.le_trans (sum_take_le _ _) hsum)
   have hp2 : perF ((lensQ qs).take (k + 1)) < 100000000 := perF_small _ (fun m hm => HPOS.out m (List.mem_of_mem_take hm)) (Nat.le_trans (sum_take_le _ _) hsum)
   have hd1 : P0 / Nat.gcd P0 n ≤ P0 := Nat.div_le_self _ _
   have hd2 : n / Nat.gcd P0 n ≤ n := Nat.div_le_self _ _
   have hM := fun w => HM.out (P0 / Nat.gcd P0 n) n w (by omega) (by omega)
   rw [Nat.mul_one, Nat.gcd_one_right, Nat.div_one, Nat.div_one, textQ_one, textQ_one, textQ_one] at hM
   have hF := fun w => HF.out n w (by omega)
   have hD := fun w => HD.out P0 n w (by omega) (by omega) hn0
   have hN := fun w => HN.out (P0 / Nat.gcd P0 n) (n / Nat.gcd P0 n) w (by omega) (by omega)
   rw [hpt, ← hn, ← hP0] at hp2
   have hlc : P0 / Nat.gcd P0 n * n = lcmF P0 n := rfl
   rw [hlc] at hM
   obtain ⟨T, hT⟩ : ∃ T, T = textQ (P0 / Nat.gcd P0 n) (n / Nat.gcd P0 n) := ⟨_, rfl⟩
   rw [← hT] at hD hN
   obtain ⟨U, hU⟩ : ∃ U, U = itoaB ((P0 / Nat.gcd P0 n : Nat) : Int) := ⟨_, rfl⟩
   rw [← hU] at hN hM
   rw [← hn, ← hP0] at hpt
   have HPT := hid hpt; have HMM := hid hM; have HFF := hid hF; have HDD := hid hD; have HNN := hid hN
   have hel : (atD (none, 0, 0) (qs.map Prod.fst) k).2.1 = n := by
    have hw := (hSr.own (k + 1) (c := cInt) (sz := 1) (e := 3) (v := cSl qs[k].1) (l := qs[k].2) (by simp [inP, hlt]))
    obtain ⟨a', cap', e1, _⟩ := hw.reps
    have e2 : qs[k].1.2.1 = qs[k].2.length := by have := congrArg (fun v : Value => match v with | .slice _ n _ => n | _ => 0) e1; simpa using this
    rw [hn]
    simp [atD, hlt, e2, lensQ]
   have HEL := hid hel
   rw [← hP0]
   clear hpt hM hF hD hN hel hT hU hlc hn hP0 hlk hp2 hd1 hd2
   go_wp2_with ((with_reducible refine wpList_idxN _ ((none, 0, 0) : SlH) E_sls F_sl cSl1 (by with_unfolding_all rfl) (by with_unfolding_all rfl) (hRq) (HQL.out) (by first | omega | (simp; done)) (by first | omega | (simp; done)) (fun _ => by with_unfolding_all rfl) (fun _ => ?_)); (try simp only [cSl]); rw [HEL.out])
   refine (HFF.out _).mono ?_
   rintro e w4 ⟨rfl, b4⟩
   go_wp2_with fail
   refine (HDD.out _).mono ?_
   rintro e w5 ⟨rfl, b5⟩
   go_wp2_with fail
   refine (HNN.out _).mono ?_
   rintro e w6 ⟨rfl, b6⟩
   go_wp2_with fail
   refine (HMM.out _).mono ?_
   rintro e w7 ⟨rfl, b7⟩
   go_wp2_with fail
   exact ⟨⟨k + 1, by omega, by go_num, by rw [HPT.out], (((hSr.mono b4).mono b5).mono b6).mono b7⟩, by simp [intOf]; omega⟩
  ·have hkq : k = qs.length := by omega
   have hlk : (lensQ qs).take k = lensQ qs := List.take_of_length_le (by rw [lens_len]; omega)
   rw [hlk, ← HPER.out]
   clear hlk
   have HKQ := hid hkq; clear hkq
   go_wp2_with fail
   go_ret
   exact ⟨rfl, hSr.b⟩
end Go.Proofs.YtbchpkmcpplidaaGreatDoor

namespace Go.Proofs.YtbchpkmcpplidaaGreatDoor
open Go.RowKit
set_option maxHeartbeats 2000000
set_option maxRecDepth 100000

theorem decD_first {u : Nat} (h : 0 < u) : ∃ b r, Lib.decDigits u = b :: r ∧ 49 ≤ b.toNat ∧ b.toNat ≤ 57 := by
 induction u using Nat.strongRecOn with
 | _ u ih =>
  by_cases h10 : u < 10
  ·rw [decD_small h10]
   refine ⟨_, [], rfl, ?_⟩
   rw [digB h10]; omega
  ·rw [decD_big h10]
   obtain ⟨b, r, e, h1, h2⟩ := ih (u / 10) (by omega) (by omega)
   rw [e]
   exact ⟨b, r ++ [UInt8.ofNat (48 + u % 10)], rfl, h1, h2⟩
end Go.Proofs.YtbchpkmcpplidaaGreatDoor

namespace Go.Proofs
open Go.Shelf
def Tryz.laysM171_ren : Go.Shelf.Ren := ⟨fun | 171 => 98 | 243 => 134 | 246 => 160 | 283 => 186 | 284 => 187 | 285 => 188 | 286 => 189 | 129 => 209 | 317 => 208 | 318 => 210 | 319 => 211 | 320 => 212 | 337 => 233 | 338 => 234 | n => n, fun | 3 => 3 | 9 => 9 | 2 => 2 | 4 => 4 | 171 => 216 | 0 => 0 | 53 => 201 | 37 => 165 | 5 => 5 | 173 => 219 | 212 => 240 | 51 => 241 | 20 => 20 | 213 => 242 | 46 => 232 | 232 => 269 | 233 => 270 | n => n, fun | 17 => 1 | 18 => 8 | 19 => 9 | n => n⟩
theorem Tryz.laysM171 : Go.Proofs.LaysM.n171 Tryz.prog Tryz.laysM171_ren := {
 mixed := by kernel_rfl
 f129 := Tryz.func209.trans (congrArg some (by kernel_rfl))
 f171 := Tryz.func98.trans (congrArg some (by kernel_rfl))
 f243 := Tryz.func134.trans (congrArg some (by kernel_rfl))
 f246 := Tryz.func160.trans (congrArg some (by kernel_rfl))
 f283 := Tryz.func186.trans (congrArg some (by kernel_rfl))
 f284 := Tryz.func187.trans (congrArg some (by kernel_rfl))
 f285 := Tryz.func188.trans (congrArg some (by kernel_rfl))
 f286 := Tryz.func189.trans (congrArg some (by kernel_rfl))
 f317 := Tryz.func208.trans (congrArg some (by kernel_rfl))
 f318 := Tryz.func210.trans (congrArg some (by kernel_rfl))
 f319 := Tryz.func211.trans (congrArg some (by kernel_rfl))
 f320 := Tryz.func212.trans (congrArg some (by kernel_rfl))
 f337 := Tryz.func233.trans (congrArg some (by kernel_rfl))
 f338 := Tryz.func234.trans (congrArg some (by kernel_rfl))
 t0 := Tryz.underlying0
 a0 := Tryz.isAgg0
 z0 := Tryz.sizeOf0
 v0 := Tryz.zeroValue0
 t2 := Tryz.underlying2
 a2 := Tryz.isAgg2
 z2 := Tryz.sizeOf2
 v2 := Tryz.zeroValue2
 t3 := Tryz.underlying3
 a3 := Tryz.isAgg3
 z3 := Tryz.sizeOf3
 v3 := Tryz.zeroValue3
 t4 := Tryz.underlying4
 a4 := Tryz.isAgg4
 z4 := Tryz.sizeOf4
 v4 := Tryz.zeroValue4
 t5 := Tryz.underlying5
 a5 := Tryz.isAgg5
 z5 := Tryz.sizeOf5
 v5 := Tryz.zeroValue5
 t9 := Tryz.underlying9
 a9 := Tryz.isAgg9
 z9 := Tryz.sizeOf9
 v9 := Tryz.zeroValue9
 t20 := Tryz.underlying20
 a20 := Tryz.isAgg20
 z20 := Tryz.sizeOf20
 v20 := Tryz.zeroValue20
 t37 := Tryz.underlying165
 a37 := Tryz.isAgg165
 z37 := Tryz.sizeOf165
 v37 := Tryz.zeroValue165
 t46 := Tryz.underlying232
 a46 := Tryz.isAgg232
 z46 := Tryz.sizeOf232
 v46 := Tryz.zeroValue232
 t51 := Tryz.underlying241
 a51 := Tryz.isAgg241
 z51 := Tryz.sizeOf241
 v51 := Tryz.zeroValue241
 t53 := Tryz.underlying201
 a53 := Tryz.isAgg201
 z53 := Tryz.sizeOf201
 v53 := Tryz.zeroValue201
 t171 := Tryz.underlying216
 a171 := Tryz.isAgg216
 z171 := Tryz.sizeOf216
 v171 := Tryz.zeroValue216
 t173 := Tryz.underlying219
 a173 := Tryz.isAgg219
 z173 := Tryz.sizeOf219
 v173 := Tryz.zeroValue219
 t212 := Tryz.underlying240
 a212 := Tryz.isAgg240
 z212 := Tryz.sizeOf240
 v212 := Tryz.zeroValue240
 t213 := Tryz.underlying242
 a213 := Tryz.isAgg242
 z213 := Tryz.sizeOf242
 t232 := Tryz.underlying269
 a232 := Tryz.isAgg269
 z232 := Tryz.sizeOf269
 v232 := Tryz.zeroValue269
 t233 := Tryz.underlying270
 a233 := Tryz.isAgg270
 z233 := Tryz.sizeOf270
 v233 := Tryz.zeroValue270
 g17 := by kernel_rfl
 g18 := by kernel_rfl
 g19 := by kernel_rfl
 i0 := by kernel_rfl
 i2 := by kernel_rfl
 i3 := by kernel_rfl
 i4 := by kernel_rfl
 i5 := by kernel_rfl
 i9 := by kernel_rfl
 i20 := by kernel_rfl
 i37 := by kernel_rfl
 i46 := by kernel_rfl
 i51 := by kernel_rfl
 i53 := by kernel_rfl
 i171 := by kernel_rfl
 i173 := by kernel_rfl
 i212 := by kernel_rfl
 i232 := by kernel_rfl
 i233 := by kernel_rfl
 m17 := by kernel_rfl
 m18 := by kernel_rfl
 m19 := by kernel_rfl }
open Go.RowKit Go.Sort Go.Lib in
/-- strconv.Itoa: "Itoa is equivalent to FormatInt(int64(i), 10).": i's DECIMAL NUMERAL ('Lib.itoa': a '-' where i is negative, then the digits), FOR EVERY int. The world behind the call: the world before it, new blocks behind the heap (the library's 'var a [24]byte'), draws. (LAID: no walk: one application.) -/
theorem Tryz.strconv_Itoa (n : Int) (h0 : -9223372036854775808 ≤ n) (h1 : n ≤ 9223372036854775807) (w : World) (htab : Lib.TabIs Tryz.prog w "internal/strconv.uint64pow10" .u64 Lib.pow10Tab) :
  Calls Tryz.prog 98 #[.int .i64 n] w fun e w' => e = .returned (.string ⟨(Lib.itoa n).toArray⟩) ∧ ∃ k os, w' = grow (w.drewN k) os := Any.strconv_Itoa Tryz.laysM171 n h0 h1 w htab

end Go.Proofs
