/- Contracts and plain facts that the claim uses (MaO MaR MaS MbU MbV MbX). Conditions: as each one states. -/
import Derived.RangeFuncNested
import Derived.RangeFuncBound
import Derived.RangeFuncCalls
import Derived.RangeFuncLeaves
import Derived.RangeFuncFrom
import Derived.Shelf.Abstract
import Derived.Shelf.RegionOpen
import Derived.WalkKit
import Derived.OwnWalkIn
import Derived.TacticsInMore
import Derived.LoopNIn
import Derived.LoopIn
import Derived.Test.YtndmeaoidihikaaGreatDoorProg
import Derived.WalkSpells
import Derived.Maps.AppendAt
import Derived.Deep.Quiet
import Derived.Maps.Own
import Derived.Maps.OwnSet
import Derived.Maps.Views
import Derived.WalkLawsBesides
import Derived.Laws.EntriesVeiled
import Derived.Deep.QuietTactic
import Derived.BigQuiet
import Derived.Shelf.Strings.Trim
import Derived.Shelf.Strings.SlTrimAscii
import Derived.Shelf.Strings.Repeat
import Derived.Shelf.Strings.OnBuilder
import Derived.Shelf.Strconv.Itoa1
import Derived.Shelf.Strconv.Itoa3
import Derived.Shelf.LaysM
import Derived.Ground.Names2Prog
import Derived.Lib.OthersKept
import Derived.Deep.RegionHeld3
import Derived.Deep.AppendLies
import Derived.Deep.RegionHeldLaw
import Derived.Deep.RegionLaw
import Derived.StillTail
import Derived.Laws.Tables
import Derived.IntWalk
import Derived.Laws.CopyOwn
import Derived.BigRegion
import Derived.ChangeAlike
import Derived.Shelf.Bits.Mul64
import Derived.Lib.ItoaLen
import Derived.Lib.ItoaMem
import Derived.Sort.LoopGhostIn
import Derived.Maps.RangeWalk
import Derived.Maps.Ext
import Derived.Sort.QuietThIn
import Derived.Test.YtndmeaoidihikaaGreatDoorXz01
import Derived.Test.YtndmeaoidihikaaGreatDoorXz02
import Derived.Test.YtndmeaoidihikaaGreatDoorXz03
import Derived.Test.YtndmeaoidihikaaGreatDoorXz04
import Derived.Test.YtndmeaoidihikaaGreatDoorXz05
import Derived.Test.YtndmeaoidihikaaGreatDoorXz06
set_option linter.all false

namespace Go.Proofs.YtndmeaoidihikaaGreatDoor
open Go.RowKit
set_option maxHeartbeats 8000000
set_option maxRecDepth 100000

/-- mapped with a function of the program, of which the places are given. -/
theorem mappedR_any  (g : Int → Int) (al : Option Addr) (cl : Nat) (l : List Int) (w : World) (hL : Ints w al cl l) (hn : l.length ≤ 1048576)
  (HF : ∀ x ∈ l, ∀ w', Below w.heap.size w w' → Calls Tryz.prog 75 #[.int .i64 x] w' fun r w'' => r = .returned (.int .i64 (g x)) ∧ Below w'.heap.size w' w'') :
  Calls Tryz.prog 57 #[.slice al l.length cl, .func (.func 75) #[] #[]] w fun r w' => ∃ v, r = .returned v ∧ OwnI w.heap.size w' v (l.map g) ∧ Below w.heap.size w w' := by
 have hcap := hL.le
 have hmx := hL.max
 have H := hid HF
 clear HF
 have hS := (SL.nil w).nilS (α := Int) (e := 3) cIntS
 go_enter Tryz.func57, Tryz.ntmps57
 go_wp2_with fail
 go_loopw [5, 10] (fun v i wr => ∃ k : Nat, k ≤ l.length ∧ i = .int .i64 k ∧ SL w.heap.size w wr [pOwn cInt 1 3 v ((l.take k).map g)]) (fun _ i _ => l.length - (intOf i).toNat)
 case atStart => exact ⟨0, by omega, rfl, hS⟩
 case round =>
  clear hS
  obtain ⟨k, hk, rfl, hSr⟩ := hrel
  have hLr := hL.below hSr.b
  by_cases hlt : k < l.length
  ·have hmem := atD_mem hlt
   have ht := take_snoc hlt
   have hlen : ((l.take k).map g).length ≤ 1048576 := by simp; omega
   obtain ⟨x, hx⟩ : ∃ x, x = atD 0 l k := ⟨_, rfl⟩
   rw [← hx] at hmem ht
   have HX := hid hx; have HT := hid ht
   clear hx ht
   go_wp2_with ((with_reducible refine wpList_idx _ 0 E_ints F_int cInt1 wU wU (hLr) oD oD (fun _ => wU) (fun _ => ?_)); rw [← HX.out])
   refine (H.out x hmem _ hSr.b).mono ?_
   rintro e w1 ⟨rfl, b1⟩
   have hS1 := hSr.mono b1
   go_wp2_with ((with_reducible refine wpList_pushL (y := (g x)) 0 E_ints wU wU (hS1) wU cIntO ⟨rfl, rfl⟩ (by first | with_unfolding_all rfl | simp) wU (by first | omega | (simp; omega)) (by first | omega | (simp; omega)) ?_); intro v2 w2 hS2)
   exact ⟨⟨k + 1, by omega, by go_num, by rw [HT.out, List.map_append]; exact hS2⟩, by simp [intOf]; omega⟩
  ·have hkk : k = l.length := by omega
   subst hkk
   rw [List.take_length] at hSr
   go_wp2_with fail
   go_ret
   exact ⟨_, rfl, hSr.own 0 rfl, hSr.b⟩

/-- mapped with a function of the program, of which the places are given. -/
theorem mappedO_any (rv : Value) (g : Int → Int) (al : Option Addr) (cl : Nat) (l : List Int) (w : World) (hL : Ints w al cl l) (hn : l.length ≤ 1048576)
  (HF : ∀ x ∈ l, ∀ w', Below w.heap.size w w' → Calls Tryz.prog 76 #[rv, .int .i64 x] w' fun r w'' => r = .returned (.int .i64 (g x)) ∧ Below w'.heap.size w' w'') :
  Calls Tryz.prog 57 #[.slice al l.length cl, .func (.func 76) #[rv] #[]] w fun r w' => ∃ v, r = .returned v ∧ OwnI w.heap.size w' v (l.map g) ∧ Below w.heap.size w w' := by
 have hcap := hL.le
 have hmx := hL.max
 have H := hid HF
 clear HF
 have hS := (SL.nil w).nilS (α := Int) (e := 3) cIntS
 go_enter Tryz.func57, Tryz.ntmps57
 go_wp2_with fail
 go_loopw [5, 10] (fun v i wr => ∃ k : Nat, k ≤ l.length ∧ i = .int .i64 k ∧ SL w.heap.size w wr [pOwn cInt 1 3 v ((l.take k).map g)]) (fun _ i _ => l.length - (intOf i).toNat)
 case atStart => exact ⟨0, by omega, rfl, hS⟩
 case round =>
  clear hS
  obtain ⟨k, hk, rfl, hSr⟩ := hrel
  have hLr := hL.below hSr.b
  by_cases hlt : k < l.length
  ·have hmem := atD_mem hlt
   have ht := take_snoc hlt
   have hlen : ((l.take k).map g).length ≤ 1048576 := by simp; omega
   obtain ⟨x, hx⟩ : ∃ x, x = atD 0 l k := ⟨_, rfl⟩
   rw [← hx] at hmem ht
   have HX := hid hx; have HT := hid ht
   clear hx ht
   go_wp2_with ((with_reducible refine wpList_idx _ 0 E_ints F_int cInt1 wU wU (hLr) oD oD (fun _ => wU) (fun _ => ?_)); rw [← HX.out])
   refine (H.out x hmem _ hSr.b).mono ?_
   rintro e w1 ⟨rfl, b1⟩
   have hS1 := hSr.mono b1
   go_wp2_with ((with_reducible refine wpList_pushL (y := (g x)) 0 E_ints wU wU (hS1) wU cIntO ⟨rfl, rfl⟩ (by first | with_unfolding_all rfl | simp) wU (by first | omega | (simp; omega)) (by first | omega | (simp; omega)) ?_); intro v2 w2 hS2)
   exact ⟨⟨k + 1, by omega, by go_num, by rw [HT.out, List.map_append]; exact hS2⟩, by simp [intOf]; omega⟩
  ·have hkk : k = l.length := by omega
   subst hkk
   rw [List.take_length] at hSr
   go_wp2_with fail
   go_ret
   exact ⟨_, rfl, hSr.own 0 rfl, hSr.b⟩

/-- mapped with a function of the program, of which the places are given. -/
theorem mappedN_any (rv : Value) (g : Int → Int) (al : Option Addr) (cl : Nat) (l : List Int) (w : World) (hL : Ints w al cl l) (hn : l.length ≤ 1048576)
  (HF : ∀ x ∈ l, ∀ w', Below w.heap.size w w' → Calls Tryz.prog 42 #[rv, .int .i64 x] w' fun r w'' => r = .returned (.int .i64 (g x)) ∧ Below w'.heap.size w' w'') :
  Calls Tryz.prog 57 #[.slice al l.length cl, .func (.func 42) #[rv] #[]] w fun r w' => ∃ v, r = .returned v ∧ OwnI w.heap.size w' v (l.map g) ∧ Below w.heap.size w w' := by
 have hcap := hL.le
 have hmx := hL.max
 have H := hid HF
 clear HF
 have hS := (SL.nil w).nilS (α := Int) (e := 3) cIntS
 go_enter Tryz.func57, Tryz.ntmps57
 go_wp2_with fail
 go_loopw [5, 10] (fun v i wr => ∃ k : Nat, k ≤ l.length ∧ i = .int .i64 k ∧ SL w.heap.size w wr [pOwn cInt 1 3 v ((l.take k).map g)]) (fun _ i _ => l.length - (intOf i).toNat)
 case atStart => exact ⟨0, by omega, rfl, hS⟩
 case round =>
  clear hS
  obtain ⟨k, hk, rfl, hSr⟩ := hrel
  have hLr := hL.below hSr.b
  by_cases hlt : k < l.length
  ·have hmem := atD_mem hlt
   have ht := take_snoc hlt
   have hlen : ((l.take k).map g).length ≤ 1048576 := by simp; omega
   obtain ⟨x, hx⟩ : ∃ x, x = atD 0 l k := ⟨_, rfl⟩
   rw [← hx] at hmem ht
   have HX := hid hx; have HT := hid ht
   clear hx ht
   go_wp2_with ((with_reducible refine wpList_idx _ 0 E_ints F_int cInt1 wU wU (hLr) oD oD (fun _ => wU) (fun _ => ?_)); rw [← HX.out])
   refine (H.out x hmem _ hSr.b).mono ?_
   rintro e w1 ⟨rfl, b1⟩
   have hS1 := hSr.mono b1
   go_wp2_with ((with_reducible refine wpList_pushL (y := (g x)) 0 E_ints wU wU (hS1) wU cIntO ⟨rfl, rfl⟩ (by first | with_unfolding_all rfl | simp) wU (by first | omega | (simp; omega)) (by first | omega | (simp; omega)) ?_); intro v2 w2 hS2)
   exact ⟨⟨k + 1, by omega, by go_num, by rw [HT.out, List.map_append]; exact hS2⟩, by simp [intOf]; omega⟩
  ·have hkk : k = l.length := by omega
   subst hkk
   rw [List.take_length] at hSr
   go_wp2_with fail
   go_ret
   exact ⟨_, rfl, hSr.own 0 rfl, hSr.b⟩

def mirM (s : Int) : Int := if s % 4 = 1 then s + 2 else if s % 4 = 3 then s - 2 else s
theorem mir1_any (s : Int) (w : World) (h0 : 0 ≤ s) (h1 : s < 64) :
  Calls Tryz.prog 75 #[.int .i64 s] w fun r w' => r = .returned (.int .i64 (mirM s)) ∧ Below w.heap.size w w' := by
 obtain ⟨q, hq⟩ : ∃ q, q = s % 4 := ⟨_, rfl⟩
 have htm : s.tmod 4 = q := by rw [hq, Int.tmod_eq_emod_of_nonneg h0]
 have hm : mirM s = if q = 1 then s + 2 else if q = 3 then s - 2 else s := by unfold mirM; rw [hq]
 by_cases c1 : q = 1
 ·have d1 : (q == 1) = true := by simpa using c1
  have hv : mirM s = s - 1 + 3 := by rw [hm, if_pos c1]; omega
  have HV := hid hv
  clear hm hv hq c1
  go_enter Tryz.func75, Tryz.ntmps75
  go_wp2_with fail
  go_ret
  exact ⟨by rw [HV.out]; rfl, Below.refl _ _⟩
 have d1 : (q == 1) = false := by simpa using c1
 by_cases c3 : q = 3
 ·have d3 : (q == 3) = true := by simpa using c3
  have hv : mirM s = s - 3 + 1 := by rw [hm, if_neg c1, if_pos c3]; omega
  have HV := hid hv
  have hs3 : 3 ≤ s := by omega
  clear hm hv hq c1 c3
  go_enter Tryz.func75, Tryz.ntmps75
  go_wp2_with fail
  go_ret
  exact ⟨by rw [HV.out]; rfl, Below.refl _ _⟩
 ·have d3 : (q == 3) = false := by simpa using c3
  have hv : mirM s = s := by rw [hm, if_neg c1, if_neg c3]
  have HV := hid hv
  clear hm hv hq c1 c3
  go_enter Tryz.func75, Tryz.ntmps75
  go_wp2_with fail
  go_ret
  exact ⟨by rw [HV.out]; rfl, Below.refl _ _⟩
end Go.Proofs.YtndmeaoidihikaaGreatDoor

namespace Go.Proofs.YtndmeaoidihikaaGreatDoor
open Go.RowKit
set_option maxHeartbeats 8000000
set_option maxRecDepth 100000

def noM : MacV := ⟨false, 0, 0, []⟩
theorem results_cellSS {P : Program} {w : World} {fn : Func} {tmps : Array Value} {t T k s s2 : Nat} {us : Array Value} {T' : TypeId} {fr : Nat × Nat} {v v2 : Value} (h : fn.results = #[.cell t T, .tmp s, .tmp s2]) (ht : tmps.getD t undef = .pointer (some ⟨k, 0, none⟩)) (hs : tmps.getD s undef = v) (hs2 : tmps.getD s2 undef = v2) (hu : Aggr P T) (hz : (P.info? T).map (·.size) = some us.size) (hb : w.heap[k]? = some (.cells us T' fr)) :
  (results fn tmps).run P w = .ok (.tuple #[.agg us, v, v2]) w := by
 obtain ⟨d, hd, hdd⟩ := hu
 have := run_loadVar_row (P := P) w k T' T us fr d hb hd (by cases d <;> first | exact hdd | rfl | cases hdd) hz
 simp only [Array.getD_eq_getD_getElem?] at ht hs hs2
 simp [results, h, ht, hs, hs2, asAddr, this]

theorem mMirrored_any (m : MacV) (ad : Option Addr) (cap : Nat) (al : Option Addr) (cl : Nat) (l : List Int) (w : World) (hR : Ints w ad cap m.sw) (hL : Ints w al cl l) (HK : ChkL m ad cap al cl l) :
  Calls Tryz.prog 33 #[mV m ad cap, .slice al l.length cl] w fun r w' => ∃ a c v, r = .returned (.tuple #[mV (if loadE m l = 0 then turnMac m else noM) a c, v, .int .i64 (loadE m l)]) ∧ SL w.heap.size w w' [pOwn cInt 1 3 (.slice a (if loadE m l = 0 then m.sw else []).length c) (if loadE m l = 0 then m.sw else []), pOwn cInt 1 3 v (if loadE m l = 0 then l.map mirM else [])] := by
 have hS := ((SL.nil w).box (.cells (mC m ad cap) 24)).box (.cells #[.bool false, .int .i64 0, .int .i64 0, .slice none 0 0] 24)
 simp only [World.size_alloc] at hS
 have R1 := hR.below hS.b
 have L1 := hL.below hS.b
 unfold ChkL at HK
 by_cases he : loadE m l = 0
 ·have hok := loadE_zero he
  have hhi := hok.ok.hi
  have hfew := hok.few
  have CT := fun w h => mturned_any m ad cap w h hok.ok.turn (by have := hok.ok.many; omega)
  have CM := fun w h => mappedR_any mirM al cl l w h (by omega) (fun x hx w' hw' => mir1_any x w' (hok.rng x hx).1 (by have := (hok.rng x hx).2; omega))
  rw [if_pos he, if_pos he, if_pos he]
  rw [he] at HK ⊢
  have HC := hid HK; have HT := hid CT; have HM := hid CM
  clear HK CT CM hok he
  go_enter Tryz.func33, Tryz.ntmps33
  go_wp2_with fail
  refine (HC.out _ R1 L1).mono ?_
  rintro e w1 ⟨rfl, b1⟩
  have hS1 := hS.mono b1
  have q1 := (hS1.blk 1 rfl).1
  go_wp2_with (with_reducible refine wpList_ldS (n := 4) (us := mC m ad cap) A_mach kR wU wU (by assumption) wU wU ?_)
  refine (HT.out _ (hR.below hS1.b)).mono ?_
  rintro e w2 ⟨a, c, rfl, ho, b2⟩
  have hS2 := hS1.call (SL.ofOwn ho b2)
  simp only [List.cons_append, List.nil_append] at hS2
  clear q1
  go_wp2_with fail
  refine (HM.out _ (hL.below hS2.b)).mono ?_
  rintro e w3 ⟨v, rfl, hv, b3⟩
  have hS3 := hS2.call (SL.ofOwn hv b3)
  simp only [List.cons_append, List.nil_append] at hS3
  go_wp2_with ((with_reducible refine wpList_stoR (us := #[.bool m.ring, .int .i64 m.gears, .int .i64 (-m.turn), .slice a m.sw.length c]) 2 wU wU (hS3) wU kR wU wU ?_); intro w4 hS4)
  exact bodyPost_ret (results_cellSS rfl rfl rfl rfl A_mach kR (hS4.blk 2 rfl).1) rfl ⟨a, c, v, rfl, hS4.pick [1, 0] (by decide) _ rfl⟩
 ·obtain ⟨E, hE⟩ : ∃ E, E = loadE m l := ⟨_, rfl⟩
  rw [if_neg he, if_neg he, if_neg he]
  rw [← hE] at HK he ⊢
  have hne : (E != 0) = true := by simpa using he
  have HC := hid HK
  clear HK hE he
  go_enter Tryz.func33, Tryz.ntmps33
  go_wp2_with fail
  refine (HC.out _ R1 L1).mono ?_
  rintro e w1 ⟨rfl, b1⟩
  have hS1 := hS.mono b1
  go_wp2_with ((with_reducible refine wpList_stoR (us := #[.bool false, .int .i64 0, .int .i64 0, .slice none 0 0]) 0 wU wU (hS1) wU kR wU wU ?_); intro w4 hS4)
  have hS5 := (hS4.nilS (α := Int) (c := cInt) (sz := 1) (e := 3) cIntS).nilS (α := Int) (c := cInt) (sz := 1) (e := 3) cIntS
  exact bodyPost_ret (results_cellSS rfl rfl rfl rfl A_mach kR (hS4.blk 0 rfl).1) rfl ⟨none, 0, _, rfl, hS5.pick [1, 0] (by decide) _ rfl⟩
end Go.Proofs.YtndmeaoidihikaaGreatDoor

namespace Go.Proofs.YtndmeaoidihikaaGreatDoor
open Go.RowKit
set_option maxHeartbeats 8000000
set_option maxRecDepth 100000

section
variable {P : Program} {ops : Array Oper} {a : Act} {ty : TypeId} {p : String} {af : Array Edge} {g : Option (Nat × Bool)} {d : Tmp} {C : World → Prop}
theorem yieldsK_blkC {e : TypeId} {s : Operand} {b n : Nat} {us : Array Value} {T : TypeId} {fr : Nat × Nat} (hF : Aggr P e) (hn : (P.info? e).map (·.size) = some n) (hb : ∀ w, C w → w.heap[b]? = some (.cells us T fr)) (hz : us.size = n)
   (hg : Region.wanted (⟨some d, .load e s, ty, p, af, g⟩ : Oper) (yielded ops a.tmps) = true) (hs : a.eval s = .pointer (some ⟨b, 0, none⟩)) : YieldsK P ops C ⟨some d, .load e s, ty, p, af, g⟩ (.agg us) a := by
 obtain ⟨i, hi, hs2⟩ : ∃ i, P.info? e = some i ∧ i.size = n := by
  cases hi : P.info? e with
  | none => rw [hi] at hn; cases hn
  | some i => rw [hi] at hn; exact ⟨i, rfl, by simpa using hn⟩
 refine .inl ⟨hg, fun w' hw' => ?_⟩
 have hb2 := hb w' hw'
 have := run_loadAt_agg (a := ⟨b, 0, none⟩) w' hF hi (cs := us.toList) (by simp [hs2, hz]) (fun j v hj => by
  have hj2 : us[j]? = some v := by simpa using hj
  rw [Addr.add_z]
  simp [World.cell?, hb2, hj2])
 simp [execOp, hs, this, Result.andThen]
end

theorem mBackwards_any (m : MacV) (ad : Option Addr) (cap : Nat) (al : Option Addr) (cl : Nat) (l : List Int) (w : World) (hR : Ints w ad cap m.sw) (hL : Ints w al cl l) (HK : ChkL m ad cap al cl l) :
  Calls Tryz.prog 34 #[mV m ad cap, .slice al l.length cl] w fun r w' => ∃ a c v, r = .returned (.tuple #[mV (if loadE m l = 0 then turnMac m else noM) a c, v, .int .i64 (loadE m l)]) ∧ SL w.heap.size w w' [pOwn cInt 1 3 (.slice a (if loadE m l = 0 then m.sw else []).length c) (if loadE m l = 0 then m.sw else []), pOwn cInt 1 3 v (if loadE m l = 0 then l.map (overM m) else [])] := by
 have hS := ((SL.nil w).box (.cells (mC m ad cap) 24)).box (.cells #[.bool false, .int .i64 0, .int .i64 0, .slice none 0 0] 24)
 simp only [World.size_alloc] at hS
 have R1 := hR.below hS.b
 have L1 := hL.below hS.b
 unfold ChkL at HK
 by_cases he : loadE m l = 0
 ·have hok := loadE_zero he
  have hhi := hok.ok.hi
  have hfew := hok.few
  have CT := fun w h => mturned_any m ad cap w h hok.ok.turn (by have := hok.ok.many; omega)
  have CM := fun w h (h2 : Ints w ad cap m.sw) => mappedO_any (mV m ad cap) (overM m) al cl l w h (by omega) (fun x hx w' hw' => over_any m ad cap x w' (h2.below hw') hhi (hok.rng x hx).1 (hok.rng x hx).2)
  rw [if_pos he, if_pos he, if_pos he]
  rw [he] at HK ⊢
  have HC := hid HK; have HT := hid CT; have HM := hid CM
  clear HK CT CM hok he
  go_enter Tryz.func34, Tryz.ntmps34
  go_wp2_with fail
  refine (HC.out _ R1 L1).mono ?_
  rintro e w1 ⟨rfl, b1⟩
  have hS1 := hS.mono b1
  have q1 := (hS1.blk 1 rfl).1
  go_wp2_with fail
  refine wp_regionK (C := (fun V => Below w.heap.size w V ∧ V.heap[w.heap.size]? = some (.cells (mC m ad cap) 24))) [0, 2, 3, 4] [_, _, _, _] 5 (by simp only [List.map_cons, List.map_nil, List.getElem?_toArray]; rfl) rfl kR kR kR (⟨hS1.b.drew, q1⟩) ?_
  refine ⟨_, yieldsK_blkC (n := 4) A_mach kR (fun V h => h.2) rfl wU wU, ?_⟩
  go_frame
  refine ⟨_, yieldsK_val wU (fun w' => by with_unfolding_all exact rfl), ?_⟩
  go_frame
  refine ⟨_, yieldsK_blkC (n := 4) A_mach kR (fun V h => h.2) rfl wU wU, ?_⟩
  go_frame
  refine ⟨.func (.func 76) #[mV m ad cap] #[], yieldsK_val wU (fun w' => by first | (go_simp; done) | (go_simp; rfl)), ?_⟩
  go_frame
  unfold wpPureK
  have hVd : ({ w1 with drawn := w1.drawn + 1 } : World) = w1.drew := rfl
  rw [hVd]
  have b2 := hS1.b.drew
  refine wpAnyC_on [1] kR (by simp) ?_
  simp only [List.forall_mem_cons, List.not_mem_nil, false_implies, implies_true, and_true]
  refine wpOp_call (f := 74) (args := #[mV m ad cap]) (by rw [List.getElem?_toArray]; rfl) wU (by first | (go_simp; done) | (simp [execOp, Act.eval, Result.andThen]; done) | (simp [execOp, Act.eval, Result.andThen]; rfl)) ?_
  refine (HT.out _ (hR.below b2)).mono ?_
  rintro e w2 ⟨a, c, rfl, ho, b3⟩
  have hS2 := hS1.drew.call (SL.ofOwn ho b3)
  simp only [List.cons_append, List.nil_append] at hS2
  refine ⟨_, rfl, ⟨hS2.b, (hS2.blk 2 rfl).1⟩, ?_⟩
  go_frame
  refine wpAnyC_on [5] kR (by simp) ?_
  simp only [List.forall_mem_cons, List.not_mem_nil, false_implies, implies_true, and_true]
  refine wpOp_call (f := 57) (args := #[.slice al l.length cl, .func (.func 76) #[mV m ad cap] #[]]) (by rw [List.getElem?_toArray]; rfl) wU (by first | (go_simp; done) | (simp [execOp, Act.eval, Result.andThen]; done) | (simp [execOp, Act.eval, Result.andThen]; rfl)) ?_
  refine (HM.out _ (hL.below hS2.b) (hR.below hS2.b)).mono ?_
  rintro e w3 ⟨v, rfl, hv, b4⟩
  have hS3 := hS2.call (SL.ofOwn hv b4)
  simp only [List.cons_append, List.nil_append] at hS3
  refine ⟨_, rfl, ⟨hS3.b, (hS3.blk 3 rfl).1⟩, ?_⟩
  go_frame
  refine wpAnyC_on [6] kR (by simp) ?_
  simp only [List.forall_mem_cons, List.not_mem_nil, false_implies, implies_true, and_true]
  refine wpOp_of_list (by rw [List.getElem?_toArray]; rfl) ?_
  ((with_reducible refine wpList_stoR (us := #[.bool m.ring, .int .i64 m.gears, .int .i64 (-m.turn), .slice a m.sw.length c]) 2 wU wU (hS3) wU kR wU wU ?_); intro w4 hS4)
  refine ⟨⟨hS4.b, (hS4.blk 3 rfl).1⟩, ?_⟩
  go_frame
  refine wpAnyC_rest [7, 8] [_, _] rfl (by simp only [List.map_cons, List.map_nil, List.getElem?_toArray]; rfl) kR kR kR (⟨hS4.b, (hS4.blk 3 rfl).1⟩) ?_
  repeat (refine ⟨_, .inl ⟨by with_unfolding_all rfl, fun w' _ => by with_unfolding_all exact rfl⟩, ?_⟩; go_frame)
  unfold wpPure
  refine of_wpList_nil (P := Tryz.prog) (ops := #[]) ?_
  go_wp2_with fail
  exact bodyPost_ret (results_cellSS rfl rfl rfl rfl A_mach kR (hS4.blk 2 rfl).1) rfl ⟨a, c, v, rfl, hS4.pick [1, 0] (by decide) _ rfl⟩
 ·obtain ⟨E, hE⟩ : ∃ E, E = loadE m l := ⟨_, rfl⟩
  rw [if_neg he, if_neg he, if_neg he]
  rw [← hE] at HK he ⊢
  have hne : (E != 0) = true := by simpa using he
  have HC := hid HK
  clear HK hE he
  go_enter Tryz.func34, Tryz.ntmps34
  go_wp2_with fail
  refine (HC.out _ R1 L1).mono ?_
  rintro e w1 ⟨rfl, b1⟩
  have hS1 := hS.mono b1
  go_wp2_with ((with_reducible refine wpList_stoR (us := #[.bool false, .int .i64 0, .int .i64 0, .slice none 0 0]) 0 wU wU (hS1) wU kR wU wU ?_); intro w4 hS4)
  have hS5 := (hS4.nilS (α := Int) (c := cInt) (sz := 1) (e := 3) cIntS).nilS (α := Int) (c := cInt) (sz := 1) (e := 3) cIntS
  exact bodyPost_ret (results_cellSS rfl rfl rfl rfl A_mach kR (hS4.blk 0 rfl).1) rfl ⟨none, 0, _, rfl, hS5.pick [1, 0] (by decide) _ rfl⟩
end Go.Proofs.YtndmeaoidihikaaGreatDoor

namespace Go.Proofs.YtndmeaoidihikaaGreatDoor
open Go.RowKit
set_option maxHeartbeats 8000000
set_option maxRecDepth 100000

theorem wring0 (m : MacV) (hr : m.ring = false) (w : World) : Calls Tryz.prog 55 #[.bool m.ring, .int .i64 13] w fun r w' => r = .returned (.int .i64 0) ∧ Below w.heap.size w w' := by
 have := calls_below (mwhen_any m.ring 13 w)
 rw [hr] at this ⊢
 exact this
theorem wring1 (m : MacV) (hr : m.ring = true) (w : World) : Calls Tryz.prog 55 #[.bool m.ring, .int .i64 13] w fun r w' => r = .returned (.int .i64 13) ∧ Below w.heap.size w w' := by
 have := calls_below (mwhen_any m.ring 13 w)
 rw [hr] at this ⊢
 exact this
theorem wringR (m : MacV) (w : World) : Calls Tryz.prog 55 #[.bool m.ring, .int .i64 13] w fun r w' => r = .returned (.int .i64 (if m.ring = true then (13 : Int) else 0)) ∧ Below w.heap.size w w' :=
 calls_below (mwhen_any m.ring 13 w)

noncomputable def orderE (m : MacV) (l : List Int) : Int := if loadE m l ≠ 0 then loadE m l else if m.ring = true then 13 else if meetsM m l 0 = true then 16 else 0
theorem mOrder_any (m : MacV) (ad : Option Addr) (cap : Nat) (al : Option Addr) (cl : Nat) (l : List Int) (w : World) (hR : Ints w ad cap m.sw) (hL : Ints w al cl l) (HK : ChkL m ad cap al cl l) :
  Calls Tryz.prog 24 #[mV m ad cap, .slice al l.length cl] w fun r w' => ∃ v, r = .returned (.tuple #[v, .int .i64 (orderE m l)]) ∧ OwnI w.heap.size w' v (if orderE m l = 0 then orderM m l else []) ∧ Below w.heap.size w w' := by
 have hcap := hL.le
 have hmx := hL.max
 have hS := (SL.nil w).box (.cells (mC m ad cap) 24)
 have q1 := (hS.blk 0 rfl).1
 have R1 := hR.below hS.b
 have L1 := hL.below hS.b
 unfold ChkL at HK
 by_cases he : loadE m l = 0
 ·have hok := loadE_zero he
  have hlo := hok.ok.lo
  have hhi := hok.ok.hi
  rw [he] at HK
  have CM := fun w h h2 => meets_any m ad al cap cl l 0 w h h2 hhi hok.rng
  have CO := fun w h => order_any m ad cap al cl l w h (by omega) hhi
  have hv : orderE m l = if m.ring = true then 13 else if meetsM m l 0 = true then 16 else 0 := by unfold orderE; rw [if_neg (by simp [he])]
  rw [hv]
  have HC := hid HK; have HO := hid CO
  clear HK hv he hok CO
  cases hr : m.ring
  ·have HW := hid (wring0 m hr)
   clear hr
   cases hm : meetsM m l 0
   all_goals
    rw [hm] at CM
    have HM := hid CM
    clear CM hm
    go_enter Tryz.func24, Tryz.ntmps24
    go_wp2_with fail
    refine wp_region_qt 6 kR kR ?_
    simp only [List.take_succ_cons, List.take_zero, List.drop_succ_cons, List.drop_zero]
    repeat (first | ((with_reducible refine wpB_loadS (n := 4) (us := mC m ad cap) A_mach kR wU wU (by assumption) wU wU ?_); (try simp only [Act.put, pA, pB, pC])) | ((with_reducible refine wpB_load F_boolM wU wU (by assumption) wU ?_); (try simp only [Act.put, pA, pB, pC])) | ((refine wpB_call (.int .i64 0) wU (fun w' => ?_) (fun w' hw' => HC.out w' (R1.below hw') (L1.below hw')) ?_); (focus (go_simp; done)); (try simp only [Act.put, pA, pB, pC])) | ((refine wpB_call (.int .i64 0) wU (fun w' => ?_) (fun w' hw' => HW.out w') ?_); (focus (go_simp; done)); (try simp only [Act.put, pA, pB, pC])) | ((with_reducible refine wpQ_skip wU ?_); (try simp only [Act.put, pA, pB, pC])) |  ((with_reducible refine wpB_load (by first | exact F_int | exact F_u64s) wU wU (by assumption) wU ?_); (try simp only [Act.put, pA, pB, pC])) | ((refine wpQ_oneG ?_ wU (fun w' => ?_) ?_); rotate_left; (go_simp; rfl); (try simp only [Act.put, pA, pB, pC])))
    refine wpQuiet_nil ?_
    intro w1 hb1
    have hS1 := hS.mono hb1
    have hS2 := hS1.al (.cells #[.int .i64 0, .int .i64 0] 29)
    have q2 := (hS2.blk 0 rfl).1
    go_wp2_with (first | (go_at_call 56; refine (mfirst_any _ _ [_, _] _ (reps_newN cIntS [_, _] 2 rfl (by decide) _ _ (by simp) rfl)).mono ?_; rw [firstE_z, firstE_z, firstE_nil]; rintro e w' ⟨rfl, rfl⟩) | (with_reducible refine wpList_ldS (n := 4) (us := mC m ad cap) A_mach kR wU wU (by assumption) wU wU ?_))
    refine (HM.out _ (hR.below hS2.b) (hL.below hS2.b)).mono ?_
    rintro e w3 ⟨rfl, b3⟩
    have hS3 := hS2.mono b3
    have q3 := (hS3.blk 0 rfl).1
    clear q2
    go_wp2_with (with_reducible refine wpList_ldS (n := 4) (us := mC m ad cap) A_mach kR wU wU (by assumption) wU wU ?_)
    first
     | (go_ret2; exact ⟨_, rfl, own_nil cIntS, hS3.b⟩)
     | (refine (HO.out _ (hL.below hS3.b)).mono ?_
        rintro e w4 ⟨v, rfl, ho, b4⟩
        go_wp2_with fail
        go_ret2
        exact ⟨_, rfl, ho.mono hS3.b.size, bnext hS3.b b4⟩)
  ·have HW := hid (wring1 m hr)
   clear CM hr
   go_enter Tryz.func24, Tryz.ntmps24
   go_wp2_with fail
   refine wp_region_qt 6 kR kR ?_
   simp only [List.take_succ_cons, List.take_zero, List.drop_succ_cons, List.drop_zero]
   repeat (first | ((with_reducible refine wpB_loadS (n := 4) (us := mC m ad cap) A_mach kR wU wU (by assumption) wU wU ?_); (try simp only [Act.put, pA, pB, pC])) | ((with_reducible refine wpB_load F_boolM wU wU (by assumption) wU ?_); (try simp only [Act.put, pA, pB, pC])) | ((refine wpB_call (.int .i64 0) wU (fun w' => ?_) (fun w' hw' => HC.out w' (R1.below hw') (L1.below hw')) ?_); (focus (go_simp; done)); (try simp only [Act.put, pA, pB, pC])) | ((refine wpB_call (.int .i64 13) wU (fun w' => ?_) (fun w' hw' => HW.out w') ?_); (focus (go_simp; done)); (try simp only [Act.put, pA, pB, pC])) | ((with_reducible refine wpQ_skip wU ?_); (try simp only [Act.put, pA, pB, pC])) |  ((with_reducible refine wpB_load (by first | exact F_int | exact F_u64s) wU wU (by assumption) wU ?_); (try simp only [Act.put, pA, pB, pC])) | ((refine wpQ_oneG ?_ wU (fun w' => ?_) ?_); rotate_left; (go_simp; rfl); (try simp only [Act.put, pA, pB, pC])))
   refine wpQuiet_nil ?_
   intro w1 hb1
   have hS1 := hS.mono hb1
   go_wp2_with (go_at_call 56; refine (mfirst_any _ _ [_, _] _ (reps_newN cIntS [_, _] 2 rfl (by decide) _ _ (by simp) rfl)).mono ?_; rw [firstE_z, firstE_head (by decide)]; rintro e w' ⟨rfl, rfl⟩)
   go_ret2
   exact ⟨_, rfl, own_nil cIntS, bal hS1.b _⟩
 ·obtain ⟨E, hE⟩ : ∃ E, E = loadE m l := ⟨_, rfl⟩
  have hv : orderE m l = E := by unfold orderE; rw [if_pos he, hE]
  rw [← hE] at HK he
  have hne : (E != 0) = true := by simpa using he
  rw [hv, if_neg he]
  have HC := hid HK
  clear hv hE HK
  obtain ⟨R, hR2⟩ : ∃ R, R = (if m.ring = true then (13 : Int) else 0) := ⟨_, rfl⟩
  have HW := hid (wringR m)
  rw [← hR2] at HW
  clear hR2
  skip
  ·go_enter Tryz.func24, Tryz.ntmps24
   go_wp2_with fail
   refine wp_region_qt 6 kR kR ?_
   simp only [List.take_succ_cons, List.take_zero, List.drop_succ_cons, List.drop_zero]
   repeat (first | ((with_reducible refine wpB_loadS (n := 4) (us := mC m ad cap) A_mach kR wU wU (by assumption) wU wU ?_); (try simp only [Act.put, pA, pB, pC])) | ((with_reducible refine wpB_load F_boolM wU wU (by assumption) wU ?_); (try simp only [Act.put, pA, pB, pC])) | ((refine wpB_call (.int .i64 E) wU (fun w' => ?_) (fun w' hw' => HC.out w' (R1.below hw') (L1.below hw')) ?_); (focus (go_simp; done)); (try simp only [Act.put, pA, pB, pC])) | ((refine wpB_call (.int .i64 R) wU (fun w' => ?_) (fun w' hw' => HW.out w') ?_); (focus (go_simp; done)); (try simp only [Act.put, pA, pB, pC])) | ((with_reducible refine wpQ_skip wU ?_); (try simp only [Act.put, pA, pB, pC])) |  ((with_reducible refine wpB_load (by first | exact F_int | exact F_u64s) wU wU (by assumption) wU ?_); (try simp only [Act.put, pA, pB, pC])) | ((refine wpQ_oneG ?_ wU (fun w' => ?_) ?_); rotate_left; (go_simp; rfl); (try simp only [Act.put, pA, pB, pC])))
   refine wpQuiet_nil ?_
   intro w1 hb1
   have hS1 := hS.mono hb1
   go_wp2_with (go_at_call 56; refine (mfirst_any _ _ [_, _] _ (reps_newN cIntS [_, _] 2 rfl (by decide) _ _ (by simp) rfl)).mono ?_; rw [firstE_head he]; rintro e w' ⟨rfl, rfl⟩)
   go_ret2
   exact ⟨_, rfl, own_nil cIntS, bal hS1.b _⟩

noncomputable def crossE (m : MacV) (l : List Int) : Int := if loadE m l ≠ 0 then loadE m l else if meetsM m l 0 = true then 16 else 0
/-- a crossing as it is told. -/
def cX (c : CrM) : Value := .agg #[.int .i64 c.gear, .int .i64 c.over, .int .i64 c.under]
attribute [go_sem] cX
theorem cX1 (x : CrM) : cX x = .agg (cX x).cells := rfl
theorem cXS (x : CrM) : (cX x).cells.size = 3 := rfl
theorem cXO (x : CrM) : ∀ u ∈ (cX x).cells.toList, u.oneCell' = true := by
 intro u hu; simp [cX, Value.cells] at hu; rcases hu with rfl | rfl | rfl <;> rfl
theorem E_xs : ETy Tryz.prog 56 60 (.agg #[.int .i64 0, .int .i64 0, .int .i64 0]) 3 24 := ⟨Tryz.underlying56, by kernel_rfl, rfl, by decide⟩
theorem A_xs : Aggr Tryz.prog 60 := ⟨_, Tryz.underlying60, rfl⟩
theorem crossings1_any (c : CrM) (w : World) :
  Calls Tryz.prog 70 #[cCr c] w fun r w' => r = .returned (cX c) ∧ Below w.heap.size w w' := by
 have hS := ((SL.nil w).box (.cells #[.int .i64 c.gear, .int .i64 c.over, .int .i64 c.under, .int .i64 c.going] 104)).box (.cells #[.int .i64 0, .int .i64 0, .int .i64 0] 60)
 simp only [World.size_alloc] at hS
 have q1 := (hS.blk 1 rfl).1
 go_enter Tryz.func70, Tryz.ntmps70
 go_wp2_with (first | (with_reducible refine wpList_ldS (n := 3) (us := #[.int .i64 c.gear, .int .i64 c.over, .int .i64 c.under]) A_xs kR wU wU (by assumption) wU wU ?_) | ((with_reducible refine wpList_stoR (us := #[.int .i64 c.gear, .int .i64 c.over, .int .i64 c.under]) 0 wU wU (hS) wU kR wU wU ?_); intro w4 hS4))
 exact bodyPost_ret (results_cell rfl rfl A_xs kR (hS4.blk 0 rfl).1) rfl ⟨rfl, hS4.b⟩
theorem mappedX_any (al : Option Addr) (cl : Nat) (l : List CrM) (w : World) (hL : Reps cCr 4 w al cl l) (hn : l.length ≤ 1048576) :
  Calls Tryz.prog 69 #[.slice al l.length cl, .func (.func 70) #[] #[]] w fun r w' => ∃ v, r = .returned v ∧ Own cX 3 w.heap.size 60 w' v l ∧ Below w.heap.size w w' := by
 have hcap := hL.le
 have hmx := hL.max
 have HF := hid crossings1_any
 have hS := (SL.nil w).nilS (α := CrM) (c := cX) (sz := 3) (e := 60) cXS
 go_enter Tryz.func69, Tryz.ntmps69
 go_wp2_with fail
 go_loopw [5, 10] (fun v i wr => ∃ k : Nat, k ≤ l.length ∧ i = .int .i64 k ∧ SL w.heap.size w wr [pOwn cX 3 60 v (l.take k)]) (fun _ i _ => l.length - (intOf i).toNat)
 case atStart => exact ⟨0, by omega, rfl, hS⟩
 case round =>
  clear hS
  obtain ⟨k, hk, rfl, hSr⟩ := hrel
  have hLr := hL.below hSr.b
  by_cases hlt : k < l.length
  ·have ht : l.take (k + 1) = l.take k ++ [atD ⟨0, 0, 0, 0⟩ l k] := by rw [List.take_succ_eq_append_getElem hlt]; simp [atD, hlt]
   have hlen : (l.take k).length ≤ 1048576 := by simp; omega
   obtain ⟨x, hx⟩ : ∃ x, x = atD (⟨0, 0, 0, 0⟩ : CrM) l k := ⟨_, rfl⟩
   rw [← hx] at ht
   have HX := hid hx; have HT := hid ht
   clear hx ht
   have hS1 := hSr.box (.cells #[.int .i64 x.gear, .int .i64 x.over, .int .i64 x.under, .int .i64 x.going] 104)
   have q1 := (hS1.blk 0 rfl).1
   go_wp2_with (first | ((with_reducible refine wpList_idxS _ ⟨0, 0, 0, 0⟩ E_crs A_crs cCr1 wU wU (hLr) oD oD (fun _ => wU) (fun _ => ?_)); rw [← HX.out]) | (with_reducible refine wpList_ldS (n := 4) (us := #[.int .i64 x.gear, .int .i64 x.over, .int .i64 x.under, .int .i64 x.going]) A_crs kR wU wU (by assumption) wU wU ?_))
   refine (HF.out x _).mono ?_
   rintro e w2 ⟨rfl, b2⟩
   have hS2 := hS1.mono b2
   go_wp2_with ((with_reducible refine wpList_pushL (y := x) 1 E_xs wU wU (hS2) wU cXO ⟨rfl, rfl⟩ (by first | with_unfolding_all rfl | simp) wU (by first | omega | (simp; omega)) (by first | omega | (simp; omega)) ?_); intro v3 w3 hS3)
   exact ⟨⟨k + 1, by omega, by go_num, by rw [HT.out]; exact hS3.tail⟩, by simp [intOf]; omega⟩
  ·have hkk : k = l.length := by omega
   subst hkk
   rw [List.take_length] at hSr
   go_wp2_with fail
   go_ret
   exact ⟨_, rfl, hSr.own 0 rfl, hSr.b⟩
theorem mCrossings_any (m : MacV) (ad : Option Addr) (cap : Nat) (al : Option Addr) (cl : Nat) (l : List Int) (w : World) (hR : Ints w ad cap m.sw) (hL : Ints w al cl l) (HK : ChkL m ad cap al cl l) :
  Calls Tryz.prog 27 #[mV m ad cap, .slice al l.length cl] w fun r w' => ∃ v, r = .returned (.tuple #[v, .int .i64 (crossE m l)]) ∧ Own cX 3 w.heap.size 60 w' v (if crossE m l = 0 then crossM m l else []) ∧ Below w.heap.size w w' := by
 have hcap := hL.le
 have hmx := hL.max
 have hS := (SL.nil w).box (.cells (mC m ad cap) 24)
 have q1 := (hS.blk 0 rfl).1
 have R1 := hR.below hS.b
 have L1 := hL.below hS.b
 unfold ChkL at HK
 by_cases he : loadE m l = 0
 ·have hok := loadE_zero he
  have hlo := hok.ok.lo
  have hhi := hok.ok.hi
  rw [he] at HK
  have CM := fun w h h2 => meets_any m ad al cap cl l 0 w h h2 hhi hok.rng
  have CO := fun w h => crossings_any m ad cap al cl l w h (by omega) hhi
  have hlen : (crossM m l).length ≤ 1048576 := by have := crossM_len m l; omega
  have hv : crossE m l = if meetsM m l 0 = true then 16 else 0 := by unfold crossE; rw [if_neg (by simp [he])]
  rw [hv]
  have HC := hid HK; have HO := hid CO
  clear HK hv he hok CO
  cases hm : meetsM m l 0
  all_goals
   rw [hm] at CM
   have HM := hid CM
   clear CM hm
   go_enter Tryz.func27, Tryz.ntmps27
   go_wp2_with (with_reducible refine wpList_ldS (n := 4) (us := mC m ad cap) A_mach kR wU wU (by assumption) wU wU ?_)
   refine (HC.out _ R1 L1).mono ?_
   rintro e w1 ⟨rfl, b1⟩
   have hS1 := hS.mono b1
   have q2 := (hS1.blk 0 rfl).1
   clear q1
   go_wp2_with (with_reducible refine wpList_ldS (n := 4) (us := mC m ad cap) A_mach kR wU wU (by assumption) wU wU ?_)
   refine (HM.out _ (hR.below hS1.b) (hL.below hS1.b)).mono ?_
   rintro e w3 ⟨rfl, b3⟩
   have hS3 := hS1.mono b3
   have q3 := (hS3.blk 0 rfl).1
   clear q2
   go_wp2_with (with_reducible refine wpList_ldS (n := 4) (us := mC m ad cap) A_mach kR wU wU (by assumption) wU wU ?_)
   first
    | (go_ret2; exact ⟨_, rfl, own_nil cXS, hS3.b⟩)
    | (refine (HO.out _ (hL.below hS3.b)).mono ?_
       rintro e w4 ⟨v, rfl, ho, b4⟩
       obtain ⟨a4, c4, rfl, hr4, _⟩ := ho.reps
       go_wp2_with fail
       refine (mappedX_any a4 c4 _ _ hr4 hlen).mono ?_
       rintro e w5 ⟨v5, rfl, ho5, b5⟩
       go_wp2_with fail
       go_ret2
       exact ⟨_, rfl, ho5.mono (bnext hS3.b b4).size, bnext hS3.b (bnext b4 b5)⟩)
 ·obtain ⟨E, hE⟩ : ∃ E, E = loadE m l := ⟨_, rfl⟩
  have hv : crossE m l = E := by unfold crossE; rw [if_pos he, hE]
  rw [← hE] at HK he
  have hne : (E != 0) = true := by simpa using he
  rw [hv, if_neg he]
  have HC := hid HK
  clear hv hE HK
  go_enter Tryz.func27, Tryz.ntmps27
  go_wp2_with (with_reducible refine wpList_ldS (n := 4) (us := mC m ad cap) A_mach kR wU wU (by assumption) wU wU ?_)
  refine (HC.out _ R1 L1).mono ?_
  rintro e w1 ⟨rfl, b1⟩
  have hS1 := hS.mono b1
  go_wp2_with fail
  go_ret2
  exact ⟨_, rfl, own_nil cXS, hS1.b⟩
end Go.Proofs.YtndmeaoidihikaaGreatDoor

namespace Go.Proofs.YtndmeaoidihikaaGreatDoor
open Go.RowKit
set_option maxHeartbeats 8000000
set_option maxRecDepth 100000

def pre4 (E : Int) (r : Bool) (k : Nat) (n : Int) : Int := firstE [E, if r then 13 else 0, if decide (12 < (k : Int)) then 5 else 0, if n < 0 ∨ 1000 < n then 3 else 0]
theorem weaveE_pre (m : MacV) (l : List Int) (n : Int) : weaveE m l n = if pre4 (loadE m l) m.ring l.length n ≠ 0 then pre4 (loadE m l) m.ring l.length n else if meetsM m l n = true then 16 else 0 := by
 unfold weaveE pre4
 by_cases he : loadE m l = 0
 ·rw [if_neg (by simp [he]), he, firstE_z]
  cases hr : m.ring
  ·simp only [Bool.false_eq_true, if_false]
   rw [firstE_z]
   by_cases hl : 12 < l.length
   ·have : decide (12 < (l.length : Int)) = true := decide_eq_true (by omega)
    rw [this, if_pos rfl, if_pos hl, firstE_head (by decide)]
    simp
   ·have : decide (12 < (l.length : Int)) = false := decide_eq_false (by omega)
    rw [this, if_neg hl]
    simp only [Bool.false_eq_true, if_false]
    rw [firstE_z]
    by_cases hn : n < 0 ∨ 1000 < n
    ·have e : (if n < 0 ∨ 1000 < n then (3 : Int) else 0) = 3 := if_pos hn
     rw [e, if_pos hn, firstE_head (by decide)]
     rfl
    ·have e : (if n < 0 ∨ 1000 < n then (3 : Int) else 0) = 0 := if_neg hn
     rw [e, if_neg hn, firstE_z, firstE_nil]
     rfl
  ·simp only [if_true]
   rw [firstE_head (by decide)]
   simp
 ·rw [if_pos he, firstE_head he, if_pos he]
theorem pre4_zero {m : MacV} {l : List Int} {n : Int} (h : pre4 (loadE m l) m.ring l.length n = 0) : LoadOk m l := by
 refine loadE_zero ?_
 by_cases he : loadE m l = 0
 ·exact he
 ·unfold pre4 at h; rw [firstE_head he] at h; exact absurd h he

theorem wwhen (b : Bool) (e v : Int) (h : v = if b then e else 0) (w : World) : Calls Tryz.prog 55 #[.bool b, .int .i64 e] w fun r w' => r = .returned (.int .i64 v) ∧ Below w.heap.size w w' := by
 subst h
 exact calls_below (mwhen_any b e w)

theorem checkWeave_any (m : MacV) (ad : Option Addr) (cap : Nat) (al : Option Addr) (cl : Nat) (l : List Int) (n : Int) (w : World) (hR : Ints w ad cap m.sw) (hL : Ints w al cl l) (HK : ChkL m ad cap al cl l) :
  Calls Tryz.prog 64 #[mV m ad cap, .slice al l.length cl, .int .i64 n] w fun r w' => r = .returned (.int .i64 (weaveE m l n)) ∧ Below w.heap.size w w' := by
 have hcap := hL.le
 have hmx := hL.max
 have hS := (SL.nil w).box (.cells (mC m ad cap) 24)
 have q1 := (hS.blk 0 rfl).1
 have R1 := hR.below hS.b
 have L1 := hL.below hS.b
 unfold ChkL at HK
 have hv := weaveE_pre m l n
 obtain ⟨Z, hZ⟩ : ∃ Z, Z = pre4 (loadE m l) m.ring l.length n := ⟨_, rfl⟩
 have hok : Z = 0 → LoadOk m l := fun h => pre4_zero (by rw [← hZ]; exact h)
 rw [← hZ] at hv
 unfold pre4 at hZ
 obtain ⟨E, hE⟩ : ∃ E, E = loadE m l := ⟨_, rfl⟩
 obtain ⟨R, hRR⟩ : ∃ R, R = (if m.ring = true then (13 : Int) else 0) := ⟨_, rfl⟩
 obtain ⟨V5, hV5⟩ : ∃ V, V = (if decide (12 < (l.length : Int)) = true then (5 : Int) else 0) := ⟨_, rfl⟩
 obtain ⟨V3, hV3⟩ : ∃ V, V = (if n < 0 ∨ 1000 < n then (3 : Int) else 0) := ⟨_, rfl⟩
 rw [← hE] at HK hZ
 rw [← hRR, ← hV5, ← hV3] at hZ
 have HC := hid HK
 have HW := hid (wwhen m.ring 13 R hRR)
 have HW5 := hid (wwhen (decide (12 < (l.length : Int))) 5 V5 hV5)
 have HZ := hid hZ
 rw [hv]
 have fin : ∀ w1, SL w.heap.size w w1 [pBlk w.heap.size (.cells (mC m ad cap) 24)] → True := fun _ _ => trivial
 clear HK hE hRR hV5 hZ hv fin
 by_cases c1 : n < 0
 ·have hb3 : V3 = if (true : Bool) then 3 else 0 := by rw [hV3, if_pos (.inl c1)]; rfl
  have HW3 := hid (wwhen true 3 V3 hb3)
  have d1 : decide (n < 0) = true := decide_eq_true c1
  clear hV3 hb3
  by_cases hz : Z = 0
  ·have CM := fun w h h2 => meets_any m ad al cap cl l n w h h2 (hok hz).ok.hi (hok hz).rng
   rw [if_neg (by simp [hz])]
   clear hok
   subst hz
   cases hm : meetsM m l n
   all_goals
    rw [hm] at CM
    have HM := hid CM
    clear CM hm
    go_enter Tryz.func64, Tryz.ntmps64
    go_wp2_with fail
    refine wp_region_qt 17 kR kR ?_
    simp only [List.take_succ_cons, List.take_zero, List.drop_succ_cons, List.drop_zero]
    repeat (first | ((with_reducible refine wpB_loadS (n := 4) (us := mC m ad cap) A_mach kR wU wU (by assumption) wU wU ?_); (try simp only [Act.put, pA, pB, pC])) | ((with_reducible refine wpB_load F_boolM wU wU (by assumption) wU ?_); (try simp only [Act.put, pA, pB, pC])) | ((refine wpB_call (.int .i64 E) wU (fun w' => ?_) (fun w' hw' => HC.out w' (R1.below hw') (L1.below hw')) ?_); (focus (go_simp; done)); (try simp only [Act.put, pA, pB, pC])) | ((refine wpB_call (.int .i64 R) wU (fun w' => ?_) (fun w' hw' => HW.out w') ?_); (focus (go_simp; done)); (try simp only [Act.put, pA, pB, pC])) | ((refine wpB_call (.int .i64 V5) wU (fun w' => ?_) (fun w' hw' => HW5.out w') ?_); (focus (go_simp; done)); (try simp only [Act.put, pA, pB, pC])) | ((refine wpB_call (.int .i64 V3) wU (fun w' => ?_) (fun w' hw' => HW3.out w') ?_); (focus (go_simp; done)); (try simp only [Act.put, pA, pB, pC])) | ((with_reducible refine wpQ_skip wU ?_); (try simp only [Act.put, pA, pB, pC])) |  ((with_reducible refine wpB_load (by first | exact F_int | exact F_u64s) wU wU (by assumption) wU ?_); (try simp only [Act.put, pA, pB, pC])) | ((refine wpQ_oneG ?_ wU (fun w' => ?_) ?_); rotate_left; (go_simp; rfl); (try simp only [Act.put, pA, pB, pC])))
    refine wpQuiet_nil ?_
    intro w1 hb1
    have hS1 := hS.mono hb1
    have hS2 := hS1.al (.cells #[.int .i64 E, .int .i64 R, .int .i64 V5, .int .i64 V3] 29)
    have q2 := (hS2.blk 0 rfl).1
    go_wp2_with (first | (go_at_call 56; refine (mfirst_any _ _ [_, _, _, _] _ (reps_newN cIntS [_, _, _, _] 4 rfl (by decide) _ _ (by simp) rfl)).mono ?_; rw [← HZ.out]; rintro e w' ⟨rfl, rfl⟩) | (with_reducible refine wpList_ldS (n := 4) (us := mC m ad cap) A_mach kR wU wU (by assumption) wU wU ?_))
    refine (HM.out _ (hR.below hS2.b) (hL.below hS2.b)).mono ?_
    rintro e w3 ⟨rfl, b3⟩
    have hS3 := hS2.mono b3
    go_wp2_with (go_at_call 55; refine (mwhen_any _ _ _).mono ?_; rintro e w' ⟨rfl, rfl⟩)
    go_ret
    exact ⟨rfl, hS3.b⟩
  ·have hne : (Z != 0) = true := by simpa using hz
   rw [if_pos hz]
   clear hok
   go_enter Tryz.func64, Tryz.ntmps64
   go_wp2_with fail
   refine wp_region_qt 17 kR kR ?_
   simp only [List.take_succ_cons, List.take_zero, List.drop_succ_cons, List.drop_zero]
   repeat (first | ((with_reducible refine wpB_loadS (n := 4) (us := mC m ad cap) A_mach kR wU wU (by assumption) wU wU ?_); (try simp only [Act.put, pA, pB, pC])) | ((with_reducible refine wpB_load F_boolM wU wU (by assumption) wU ?_); (try simp only [Act.put, pA, pB, pC])) | ((refine wpB_call (.int .i64 E) wU (fun w' => ?_) (fun w' hw' => HC.out w' (R1.below hw') (L1.below hw')) ?_); (focus (go_simp; done)); (try simp only [Act.put, pA, pB, pC])) | ((refine wpB_call (.int .i64 R) wU (fun w' => ?_) (fun w' hw' => HW.out w') ?_); (focus (go_simp; done)); (try simp only [Act.put, pA, pB, pC])) | ((refine wpB_call (.int .i64 V5) wU (fun w' => ?_) (fun w' hw' => HW5.out w') ?_); (focus (go_simp; done)); (try simp only [Act.put, pA, pB, pC])) | ((refine wpB_call (.int .i64 V3) wU (fun w' => ?_) (fun w' hw' => HW3.out w') ?_); (focus (go_simp; done)); (try simp only [Act.put, pA, pB, pC])) | ((with_reducible refine wpQ_skip wU ?_); (try simp only [Act.put, pA, pB, pC])) |  ((with_reducible refine wpB_load (by first | exact F_int | exact F_u64s) wU wU (by assumption) wU ?_); (try simp only [Act.put, pA, pB, pC])) | ((refine wpQ_oneG ?_ wU (fun w' => ?_) ?_); rotate_left; (go_simp; rfl); (try simp only [Act.put, pA, pB, pC])))
   refine wpQuiet_nil ?_
   intro w1 hb1
   have hS1 := hS.mono hb1
   go_wp2_with (go_at_call 56; refine (mfirst_any _ _ [_, _, _, _] _ (reps_newN cIntS [_, _, _, _] 4 rfl (by decide) _ _ (by simp) rfl)).mono ?_; rw [← HZ.out]; rintro e w' ⟨rfl, rfl⟩)
   go_ret
   exact ⟨rfl, bal hS1.b _⟩
 ·have hb3 : V3 = if decide (1000 < n) then 3 else 0 := by
   rw [hV3]
   by_cases h : 1000 < n
   ·rw [if_pos (.inr h), decide_eq_true h]; rfl
   ·rw [if_neg (by omega), decide_eq_false h]; rfl
  have HW3 := hid (wwhen (decide (1000 < n)) 3 V3 hb3)
  have d1 : decide (n < 0) = false := decide_eq_false c1
  clear hV3 hb3
  by_cases hz : Z = 0
  ·have CM := fun w h h2 => meets_any m ad al cap cl l n w h h2 (hok hz).ok.hi (hok hz).rng
   rw [if_neg (by simp [hz])]
   clear hok
   subst hz
   cases hm : meetsM m l n
   all_goals
    rw [hm] at CM
    have HM := hid CM
    clear CM hm
    go_enter Tryz.func64, Tryz.ntmps64
    go_wp2_with fail
    refine wp_region_qt 17 kR kR ?_
    simp only [List.take_succ_cons, List.take_zero, List.drop_succ_cons, List.drop_zero]
    repeat (first | ((with_reducible refine wpB_loadS (n := 4) (us := mC m ad cap) A_mach kR wU wU (by assumption) wU wU ?_); (try simp only [Act.put, pA, pB, pC])) | ((with_reducible refine wpB_load F_boolM wU wU (by assumption) wU ?_); (try simp only [Act.put, pA, pB, pC])) | ((refine wpB_call (.int .i64 E) wU (fun w' => ?_) (fun w' hw' => HC.out w' (R1.below hw') (L1.below hw')) ?_); (focus (go_simp; done)); (try simp only [Act.put, pA, pB, pC])) | ((refine wpB_call (.int .i64 R) wU (fun w' => ?_) (fun w' hw' => HW.out w') ?_); (focus (go_simp; done)); (try simp only [Act.put, pA, pB, pC])) | ((refine wpB_call (.int .i64 V5) wU (fun w' => ?_) (fun w' hw' => HW5.out w') ?_); (focus (go_simp; done)); (try simp only [Act.put, pA, pB, pC])) | ((refine wpB_call (.int .i64 V3) wU (fun w' => ?_) (fun w' hw' => HW3.out w') ?_); (focus (go_simp; done)); (try simp only [Act.put, pA, pB, pC])) | ((with_reducible refine wpQ_skip wU ?_); (try simp only [Act.put, pA, pB, pC])) |  ((with_reducible refine wpB_load (by first | exact F_int | exact F_u64s) wU wU (by assumption) wU ?_); (try simp only [Act.put, pA, pB, pC])) | ((refine wpQ_oneG ?_ wU (fun w' => ?_) ?_); rotate_left; (go_simp; rfl); (try simp only [Act.put, pA, pB, pC])))
    refine wpQuiet_nil ?_
    intro w1 hb1
    have hS1 := hS.mono hb1
    have hS2 := hS1.al (.cells #[.int .i64 E, .int .i64 R, .int .i64 V5, .int .i64 V3] 29)
    have q2 := (hS2.blk 0 rfl).1
    go_wp2_with (first | (go_at_call 56; refine (mfirst_any _ _ [_, _, _, _] _ (reps_newN cIntS [_, _, _, _] 4 rfl (by decide) _ _ (by simp) rfl)).mono ?_; rw [← HZ.out]; rintro e w' ⟨rfl, rfl⟩) | (with_reducible refine wpList_ldS (n := 4) (us := mC m ad cap) A_mach kR wU wU (by assumption) wU wU ?_))
    refine (HM.out _ (hR.below hS2.b) (hL.below hS2.b)).mono ?_
    rintro e w3 ⟨rfl, b3⟩
    have hS3 := hS2.mono b3
    go_wp2_with (go_at_call 55; refine (mwhen_any _ _ _).mono ?_; rintro e w' ⟨rfl, rfl⟩)
    go_ret
    exact ⟨rfl, hS3.b⟩
  ·have hne : (Z != 0) = true := by simpa using hz
   rw [if_pos hz]
   clear hok
   go_enter Tryz.func64, Tryz.ntmps64
   go_wp2_with fail
   refine wp_region_qt 17 kR kR ?_
   simp only [List.take_succ_cons, List.take_zero, List.drop_succ_cons, List.drop_zero]
   repeat (first | ((with_reducible refine wpB_loadS (n := 4) (us := mC m ad cap) A_mach kR wU wU (by assumption) wU wU ?_); (try simp only [Act.put, pA, pB, pC])) | ((with_reducible refine wpB_load F_boolM wU wU (by assumption) wU ?_); (try simp only [Act.put, pA, pB, pC])) | ((refine wpB_call (.int .i64 E) wU (fun w' => ?_) (fun w' hw' => HC.out w' (R1.below hw') (L1.below hw')) ?_); (focus (go_simp; done)); (try simp only [Act.put, pA, pB, pC])) | ((refine wpB_call (.int .i64 R) wU (fun w' => ?_) (fun w' hw' => HW.out w') ?_); (focus (go_simp; done)); (try simp only [Act.put, pA, pB, pC])) | ((refine wpB_call (.int .i64 V5) wU (fun w' => ?_) (fun w' hw' => HW5.out w') ?_); (focus (go_simp; done)); (try simp only [Act.put, pA, pB, pC])) | ((refine wpB_call (.int .i64 V3) wU (fun w' => ?_) (fun w' hw' => HW3.out w') ?_); (focus (go_simp; done)); (try simp only [Act.put, pA, pB, pC])) | ((with_reducible refine wpQ_skip wU ?_); (try simp only [Act.put, pA, pB, pC])) |  ((with_reducible refine wpB_load (by first | exact F_int | exact F_u64s) wU wU (by assumption) wU ?_); (try simp only [Act.put, pA, pB, pC])) | ((refine wpQ_oneG ?_ wU (fun w' => ?_) ?_); rotate_left; (go_simp; rfl); (try simp only [Act.put, pA, pB, pC])))
   refine wpQuiet_nil ?_
   intro w1 hb1
   have hS1 := hS.mono hb1
   go_wp2_with (go_at_call 56; refine (mfirst_any _ _ [_, _, _, _] _ (reps_newN cIntS [_, _, _, _] 4 rfl (by decide) _ _ (by simp) rfl)).mono ?_; rw [← HZ.out]; rintro e w' ⟨rfl, rfl⟩)
   go_ret
   exact ⟨rfl, bal hS1.b _⟩
end Go.Proofs.YtndmeaoidihikaaGreatDoor

namespace Go.Proofs.YtndmeaoidihikaaGreatDoor
open Go.RowKit
set_option maxHeartbeats 8000000
set_option maxRecDepth 100000

/-- mapped with a function of the program, of which the places are given. -/
theorem mappedZ_any (p1 p2 : Value) (g : Int → Int) (al : Option Addr) (cl : Nat) (l : List Int) (w : World) (hL : Ints w al cl l) (hn : l.length ≤ 1048576)
  (HF : ∀ x ∈ l, ∀ w', Below w.heap.size w w' → Calls Tryz.prog 67 #[.int .i64 x, p1, p2] w' fun r w'' => r = .returned (.int .i64 (g x)) ∧ Below w'.heap.size w' w'') :
  Calls Tryz.prog 57 #[.slice al l.length cl, .func (.func 67) #[] #[p1, p2]] w fun r w' => ∃ v, r = .returned v ∧ OwnI w.heap.size w' v (l.map g) ∧ Below w.heap.size w w' := by
 have hcap := hL.le
 have hmx := hL.max
 have H := hid HF
 clear HF
 have hS := (SL.nil w).nilS (α := Int) (e := 3) cIntS
 go_enter Tryz.func57, Tryz.ntmps57
 go_wp2_with fail
 go_loopw [5, 10] (fun v i wr => ∃ k : Nat, k ≤ l.length ∧ i = .int .i64 k ∧ SL w.heap.size w wr [pOwn cInt 1 3 v ((l.take k).map g)]) (fun _ i _ => l.length - (intOf i).toNat)
 case atStart => exact ⟨0, by omega, rfl, hS⟩
 case round =>
  clear hS
  obtain ⟨k, hk, rfl, hSr⟩ := hrel
  have hLr := hL.below hSr.b
  by_cases hlt : k < l.length
  ·have hmem := atD_mem hlt
   have ht := take_snoc hlt
   have hlen : ((l.take k).map g).length ≤ 1048576 := by simp; omega
   obtain ⟨x, hx⟩ : ∃ x, x = atD 0 l k := ⟨_, rfl⟩
   rw [← hx] at hmem ht
   have HX := hid hx; have HT := hid ht
   clear hx ht
   go_wp2_with ((with_reducible refine wpList_idx _ 0 E_ints F_int cInt1 wU wU (hLr) oD oD (fun _ => wU) (fun _ => ?_)); rw [← HX.out])
   refine (H.out x hmem _ hSr.b).mono ?_
   rintro e w1 ⟨rfl, b1⟩
   have hS1 := hSr.mono b1
   go_wp2_with ((with_reducible refine wpList_pushL (y := (g x)) 0 E_ints wU wU (hS1) wU cIntO ⟨rfl, rfl⟩ (by first | with_unfolding_all rfl | simp) wU (by first | omega | (simp; omega)) (by first | omega | (simp; omega)) ?_); intro v2 w2 hS2)
   exact ⟨⟨k + 1, by omega, by go_num, by rw [HT.out, List.map_append]; exact hS2⟩, by simp [intOf]; omega⟩
  ·have hkk : k = l.length := by omega
   subst hkk
   rw [List.take_length] at hSr
   go_wp2_with fail
   go_ret
   exact ⟨_, rfl, hSr.own 0 rfl, hSr.b⟩

/-- mapped with a function of the program, of which the places are given. -/
theorem mappedY_any (p1 : Value) (g : Int → Int) (al : Option Addr) (cl : Nat) (l : List Int) (w : World) (hL : Ints w al cl l) (hn : l.length ≤ 1048576)
  (HF : ∀ x ∈ l, ∀ w', Below w.heap.size w w' → Calls Tryz.prog 68 #[.int .i64 x, p1] w' fun r w'' => r = .returned (.int .i64 (g x)) ∧ Below w'.heap.size w' w'') :
  Calls Tryz.prog 57 #[.slice al l.length cl, .func (.func 68) #[] #[p1]] w fun r w' => ∃ v, r = .returned v ∧ OwnI w.heap.size w' v (l.map g) ∧ Below w.heap.size w w' := by
 have hcap := hL.le
 have hmx := hL.max
 have H := hid HF
 clear HF
 have hS := (SL.nil w).nilS (α := Int) (e := 3) cIntS
 go_enter Tryz.func57, Tryz.ntmps57
 go_wp2_with fail
 go_loopw [5, 10] (fun v i wr => ∃ k : Nat, k ≤ l.length ∧ i = .int .i64 k ∧ SL w.heap.size w wr [pOwn cInt 1 3 v ((l.take k).map g)]) (fun _ i _ => l.length - (intOf i).toNat)
 case atStart => exact ⟨0, by omega, rfl, hS⟩
 case round =>
  clear hS
  obtain ⟨k, hk, rfl, hSr⟩ := hrel
  have hLr := hL.below hSr.b
  by_cases hlt : k < l.length
  ·have hmem := atD_mem hlt
   have ht := take_snoc hlt
   have hlen : ((l.take k).map g).length ≤ 1048576 := by simp; omega
   obtain ⟨x, hx⟩ : ∃ x, x = atD 0 l k := ⟨_, rfl⟩
   rw [← hx] at hmem ht
   have HX := hid hx; have HT := hid ht
   clear hx ht
   go_wp2_with ((with_reducible refine wpList_idx _ 0 E_ints F_int cInt1 wU wU (hLr) oD oD (fun _ => wU) (fun _ => ?_)); rw [← HX.out])
   refine (H.out x hmem _ hSr.b).mono ?_
   rintro e w1 ⟨rfl, b1⟩
   have hS1 := hSr.mono b1
   go_wp2_with ((with_reducible refine wpList_pushL (y := (g x)) 0 E_ints wU wU (hS1) wU cIntO ⟨rfl, rfl⟩ (by first | with_unfolding_all rfl | simp) wU (by first | omega | (simp; omega)) (by first | omega | (simp; omega)) ?_); intro v2 w2 hS2)
   exact ⟨⟨k + 1, by omega, by go_num, by rw [HT.out, List.map_append]; exact hS2⟩, by simp [intOf]; omega⟩
  ·have hkk : k = l.length := by omega
   subst hkk
   rw [List.take_length] at hSr
   go_wp2_with fail
   go_ret
   exact ⟨_, rfl, hSr.own 0 rfl, hSr.b⟩

theorem strands1_any (m : MacV) (ad : Option Addr) (cap : Nat) (bm bn : Nat) (s n : Int) (w : World) (hm : w.heap[bm]? = some (.cells (mC m ad cap) 24)) (hn : w.heap[bn]? = some (.cells #[.int .i64 n] 3)) (hR : Ints w ad cap m.sw) (hg : m.gears ≤ 16) (h0 : 0 ≤ s) (h1 : s < 4 * m.gears) (n0 : 0 ≤ n) (n1 : n ≤ 9223372036854775807) :
  Calls Tryz.prog 67 #[.int .i64 s, .pointer (some ⟨bm, 0, none⟩), .pointer (some ⟨bn, 0, none⟩)] w fun r w' => r = .returned (.int .i64 (itM m s n.toNat)) ∧ Below w.heap.size w w' := by
 have CA := fun w h => after_any m ad cap s n w h hg h0 h1 n0 n1
 have HA := hid CA
 clear CA
 go_enter Tryz.func67, Tryz.ntmps67
 go_wp2_with (first | (with_reducible refine wpList_ldS (n := 4) (us := mC m ad cap) A_mach kR wU wU (by assumption) wU wU ?_) | (with_reducible refine wpList_ldB F_int wU wU hn wU ?_))
 refine (HA.out _ hR).mono ?_
 rintro e w1 ⟨rfl, b1⟩
 go_wp2_with fail
 go_ret
 exact ⟨rfl, b1⟩
theorem strands2_any (a : Option Addr) (cap : Nat) (L : List Int) (b : Nat) (x : Int) (w : World) (hb : w.heap[b]? = some (.cells #[.slice a L.length cap] 22)) (hL : Ints w a cap L) :
  Calls Tryz.prog 68 #[.int .i64 x, .pointer (some ⟨b, 0, none⟩)] w fun r w' => r = .returned (.int .i64 ((idxO L x).getD (-1))) ∧ Below w.heap.size w w' := by
 have CI := fun w h => sIndexO_any a cap L x w h
 have HI := hid CI
 clear CI
 go_enter Tryz.func68, Tryz.ntmps68
 go_wp2_with (with_reducible refine wpList_ldB F_sliceM wU wU hb wU ?_)
 refine (HI.out _ hL).mono ?_
 rintro e w' ⟨rfl, rfl⟩
 go_wp2_with fail
 go_ret
 exact ⟨rfl, Below.refl _ _⟩

noncomputable def strandsL (m : MacV) (l : List Int) (n : Int) : List Int := (orderM m l).map fun c => (idxO (orderM m (atL m l n.toNat)) c).getD (-1)
section
variable {ops : Array Oper} {rest : List Oper} {a : Act} {Q : Exit → Act → World → Prop} {w0 w : World} {L : List Pc} {B : Nat} {ty : TypeId} {p : String} {af : Array Edge}
theorem wpList_sto1 {x y : Operand} {k : Nat} {u v : Value} {T : TypeId} (i : Nat) (hx : a.eval x = .pointer (some ⟨k, 0, none⟩)) (hy : a.eval y = v) (hS : SL B w0 w L) (hi : L[i]? = some (pBlk k (.cells #[u] T (0, 0))))
  (hK : ∀ w', SL B w0 w' (L.set i (pBlk k (.cells #[v] T (0, 0)))) → wpList Tryz.prog ops Q rest (a.put none undef) w') (hv : ∃ a n c, v = .slice a n c := by exact ⟨_, _, _, rfl⟩) :
  wpList Tryz.prog ops Q (⟨none, .store 22 x y, ty, p, af, none⟩ :: rest) a w := by
 obtain ⟨a0, n0, c0, rfl⟩ := hv
 have h1 := hS.cell i hi 0 rfl
 have h2 := hS.frozen i hi 0
 have h3 := hS.set i hi 0 (.slice a0 n0 c0)
 refine wpList_plain rfl fun K hK' => ?_
 have hs : (Instr.storeAt 22 (.pointer (some ⟨k, 0, none⟩)) (.slice a0 n0 c0)).run Tryz.prog w = .ok () (w.setCell ⟨k, 0, none⟩ (.slice a0 n0 c0)) := by
  simp [go_sem, h1, h2]
 unfold Oper.wp
 simp only [execOp, hx, hy]
 simp [hs, Result.andThen]
 exact hK' _ _ (hK _ h3)
end

theorem mStrands_any (m : MacV) (ad : Option Addr) (cap : Nat) (al : Option Addr) (cl : Nat) (l : List Int) (n : Int) (w : World) (hR : Ints w ad cap m.sw) (hL : Ints w al cl l) (HK : ChkL m ad cap al cl l) :
  Calls Tryz.prog 26 #[mV m ad cap, .slice al l.length cl, .int .i64 n] w fun r w' => ∃ v, r = .returned (.tuple #[v, .int .i64 (weaveE m l n)]) ∧ OwnI w.heap.size w' v (if weaveE m l n = 0 then strandsL m l n else []) ∧ Below w.heap.size w w' := by
 have hcap := hL.le
 have hmx := hL.max
 have hS := ((SL.nil w).box (.cells (mC m ad cap) 24)).box (.cells #[.int .i64 n] 3)
 simp only [World.size_alloc] at hS
 have q1 := (hS.blk 1 rfl).1
 have R1 := hR.below hS.b
 have L1 := hL.below hS.b
 have CW := checkWeave_any m ad cap al cl l n _ R1 L1 HK
 by_cases he : weaveE m l n = 0
 ·obtain ⟨hok, hr, hl12, hn0, hn1, hme⟩ := weaveE_zero he
  have hlo := hok.ok.lo
  have hhi := hok.ok.hi
  have hrng := hok.rng
  rw [if_pos he]
  rw [he] at CW ⊢
  have CO := fun w h => order_any m ad cap al cl l w h (by omega) hhi
  have CO2 := fun a c w (h : Ints w a c (atL m l n.toNat)) => order_any m ad cap a c (atL m l n.toNat) w h (by omega) hhi
  have hol := orderM_len m l
  have hol2 : (orderM m l).length ≤ 1048576 := by omega
  have hat : l.map (fun s => itM m s n.toNat) = atL m l n.toNat := rfl
  have hstr : strandsL m l n = (orderM m l).map fun c => (idxO (orderM m (atL m l n.toNat)) c).getD (-1) := rfl
  rw [hstr]
  have HC := hid CW; have HO := hid CO; have HO2 := hid CO2; have HRNG := hid hrng; have HAT := hid hat
  obtain ⟨O2, hO2⟩ : ∃ O2, O2 = orderM m (atL m l n.toNat) := ⟨_, rfl⟩
  rw [← hO2] at HO2 ⊢
  clear CW CO CO2 hok he hr hme HK hstr hrng hat hO2 hol
  go_enter Tryz.func26, Tryz.ntmps26
  have q0 := (hS.blk 0 rfl).1
  go_wp2_with (first | (with_reducible refine wpList_ldS (n := 4) (us := mC m ad cap) A_mach kR wU wU (by assumption) wU wU ?_) | (with_reducible refine wpList_ldB F_int wU wU q0 wU ?_))
  refine HC.out.mono ?_
  rintro e w1 ⟨rfl, b1⟩
  have hS1 := hS.mono b1
  have q2 := (hS1.blk 1 rfl).1
  have q3 := (hS1.blk 0 rfl).1
  clear q0 q1
  go_wp2_with fail
  refine wp_regionK (C := (fun V => Below w.heap.size w V ∧ V.heap[w.heap.size]? = some (.cells (mC m ad cap) 24))) [0, 1, 2] [_, _, _] 4 (by simp only [List.map_cons, List.map_nil, List.getElem?_toArray]; rfl) rfl kR kR kR (⟨hS1.b.drew, q2⟩) ?_
  refine ⟨_, yieldsK_blkC (n := 4) A_mach kR (fun V h => h.2) rfl wU wU, ?_⟩
  go_frame
  refine ⟨_, yieldsK_val wU (fun w' => by with_unfolding_all exact rfl), ?_⟩
  go_frame
  refine ⟨.func (.func 67) #[] #[.pointer (some ⟨w.heap.size, 0, none⟩), .pointer (some ⟨w.heap.size + 1, 0, none⟩)], yieldsK_val wU (fun w' => by first | (go_simp; done) | (go_simp; rfl)), ?_⟩
  go_frame
  unfold wpPureK
  have hVd : ({ w1 with drawn := w1.drawn + 1 } : World) = w1.drew := rfl
  rw [hVd]
  have hS2 := hS1.drew
  have q4 := (hS2.blk 1 rfl).1
  refine wpAnyC_on [3, 5] kR (by simp) ?_
  simp only [List.forall_mem_cons, List.not_mem_nil, false_implies, implies_true, and_true]
  refine ⟨?_, ?_⟩
  ·refine wpOp_call (f := 57) (args := #[.slice al l.length cl, .func (.func 67) #[] #[.pointer (some ⟨w.heap.size, 0, none⟩), .pointer (some ⟨w.heap.size + 1, 0, none⟩)]]) (by rw [List.getElem?_toArray]; rfl) wU (by first | (go_simp; done) | (simp [execOp, Act.eval, Result.andThen]; done) | (simp [execOp, Act.eval, Result.andThen]; rfl)) ?_
   refine (mappedZ_any _ _ (fun s => itM m s n.toNat) al cl l _ (hL.below hS2.b) (by omega) (fun x hx w' hw' => strands1_any m ad cap _ _ x n w' ((hw'.block _ (hS2.blk 1 rfl).2.2).trans (hS2.blk 1 rfl).1) ((hw'.block _ (hS2.blk 0 rfl).2.2).trans (hS2.blk 0 rfl).1) ((hR.below hS2.b).below hw') hhi (HRNG.out x hx).1 (HRNG.out x hx).2 (by omega) (by omega))).mono ?_
   rintro e w3 ⟨v, rfl, ho, b3⟩
   rw [HAT.out] at ho
   obtain ⟨a3, c3, rfl, hr3, _⟩ := ho.reps
   have hT3 := hS2.call (SL.ofOwn ho b3)
   simp only [List.cons_append, List.nil_append] at hT3
   refine ⟨_, rfl, ⟨hT3.b, (hT3.blk 2 rfl).1⟩, ?_⟩
   go_frame
   refine wpAnyC_on [4, 5] kR (by simp) ?_
   simp only [List.forall_mem_cons, List.not_mem_nil, false_implies, implies_true, and_true]
   refine ⟨?_, ?_⟩
   ·refine wpOp_call (f := 63) (args := #[mV m ad cap, .slice a3 (atL m l n.toNat).length c3]) (by rw [List.getElem?_toArray]; rfl) wU (by first | (go_simp; done) | (simp [execOp, Act.eval, Result.andThen]; done) | (simp [execOp, Act.eval, Result.andThen]; rfl)) ?_
    refine (HO2.out a3 c3 _ (hT3.rd 0 rfl)).mono ?_
    rintro e w4 ⟨v4, rfl, ho4, b4⟩
    have hT4 := hT3.call (SL.ofOwn ho4 b4)
    simp only [List.cons_append, List.nil_append] at hT4
    obtain ⟨a4, c4, rfl, _⟩ := hT4.slice 0 rfl
    refine ⟨_, rfl, ⟨hT4.b, (hT4.blk 3 rfl).1⟩, ?_⟩
    go_frame
    refine wpAnyC_on [5] kR (by simp) ?_
    simp only [List.forall_mem_cons, List.not_mem_nil, false_implies, implies_true, and_true]
    have hT5 := hT4.box (.cells #[.slice none 0 0] 22)
    refine wpOp_value (v := .pointer (some ⟨(w4).heap.size, 0, none⟩)) (w' := (w4).alloc (.cells #[.slice none 0 0] 22)) (by rw [List.getElem?_toArray]; rfl) wU (by first | (go_simp; done) | (go_simp; rfl) | (simp [execOp, Act.eval, Result.andThen]; done)) ?_
    refine ⟨⟨hT5.b, (hT5.blk 4 rfl).1⟩, ?_⟩
    go_frame
    obtain ⟨W5, hW5⟩ : ∃ V, V = (w4).alloc (.cells #[.slice none 0 0] 22) := ⟨_, rfl⟩
    obtain ⟨b9, hb9⟩ : ∃ b, b = (w4).heap.size := ⟨_, rfl⟩
    rw [← hW5, ← hb9] at hT5
    simp only [← hW5, ← hb9]
    clear hW5 hb9
    refine wpAnyC_on [6] kR (by simp) ?_
    simp only [List.forall_mem_cons, List.not_mem_nil, false_implies, implies_true, and_true]
    refine wpOp_of_list (by rw [List.getElem?_toArray]; rfl) ?_
    refine wpList_sto1 (v := .slice a4 O2.length c4) 0 wU wU hT5 rfl ?_
    intro w6 hT6
    refine ⟨⟨hT6.b, (hT6.blk 4 rfl).1⟩, ?_⟩
    go_frame
    refine wpAnyC_rest [] [] rfl rfl kR kR kR ⟨hT6.b, (hT6.blk 4 rfl).1⟩ ?_
    unfold wpPure
    refine of_wpList_nil (P := Tryz.prog) (ops := #[]) ?_
    have q7 := (hT6.blk 4 rfl).1
    go_wp2_with (with_reducible refine wpList_ldS (n := 4) (us := mC m ad cap) A_mach kR wU wU (by assumption) wU wU ?_)
    refine (HO.out _ (hL.below hT6.b)).mono ?_
    rintro e w7 ⟨v7, rfl, ho7, b7⟩
    obtain ⟨a7, c7, rfl, hr7, _⟩ := ho7.reps
    have hU := hT6.call (SL.ofOwn ho7 b7)
    simp only [List.cons_append, List.nil_append] at hU
    go_wp2_with fail
    refine (mappedY_any _ (fun c => (idxO O2 c).getD (-1)) a7 c7 _ _ hr7 hol2 (fun x hx w' hw' => strands2_any a4 c4 O2 _ x w' ((hw'.block _ (hU.blk 1 rfl).2.2).trans (hU.blk 1 rfl).1) ((hU.rd 2 rfl).below hw'))).mono ?_
    rintro e w8 ⟨v8, rfl, ho8, b8⟩
    go_wp2_with fail
    go_ret2
    exact ⟨_, rfl, ho8.mono hU.b.size, bnext hU.b b8⟩

   ·have hT4 := hT3.box (.cells #[.slice none 0 0] 22)
    refine wpOp_value (v := .pointer (some ⟨(w3).heap.size, 0, none⟩)) (w' := (w3).alloc (.cells #[.slice none 0 0] 22)) (by rw [List.getElem?_toArray]; rfl) wU (by first | (go_simp; done) | (go_simp; rfl) | (simp [execOp, Act.eval, Result.andThen]; done)) ?_
    refine ⟨⟨hT4.b, (hT4.blk 3 rfl).1⟩, ?_⟩
    go_frame
    obtain ⟨W5, hW5⟩ : ∃ V, V = (w3).alloc (.cells #[.slice none 0 0] 22) := ⟨_, rfl⟩
    obtain ⟨b9, hb9⟩ : ∃ b, b = (w3).heap.size := ⟨_, rfl⟩
    rw [← hW5, ← hb9] at hT4
    simp only [← hW5, ← hb9]
    clear hW5 hb9
    refine wpAnyC_on [4] kR (by simp) ?_
    simp only [List.forall_mem_cons, List.not_mem_nil, false_implies, implies_true, and_true]
    refine wpOp_call (f := 63) (args := #[mV m ad cap, .slice a3 (atL m l n.toNat).length c3]) (by rw [List.getElem?_toArray]; rfl) wU (by first | (go_simp; done) | (simp [execOp, Act.eval, Result.andThen]; done) | (simp [execOp, Act.eval, Result.andThen]; rfl)) ?_
    refine (HO2.out a3 c3 _ (hT4.rd 1 rfl)).mono ?_
    rintro e w4 ⟨v4, rfl, ho4, b4⟩
    have hT5 := hT4.call (SL.ofOwn ho4 b4)
    simp only [List.cons_append, List.nil_append] at hT5
    obtain ⟨a4, c4, rfl, _⟩ := hT5.slice 0 rfl
    refine ⟨_, rfl, ⟨hT5.b, (hT5.blk 4 rfl).1⟩, ?_⟩
    go_frame
    refine wpAnyC_on [6] kR (by simp) ?_
    simp only [List.forall_mem_cons, List.not_mem_nil, false_implies, implies_true, and_true]
    refine wpOp_of_list (by rw [List.getElem?_toArray]; rfl) ?_
    refine wpList_sto1 (v := .slice a4 O2.length c4) 1 wU wU hT5 rfl ?_
    intro w6 hT6
    refine ⟨⟨hT6.b, (hT6.blk 4 rfl).1⟩, ?_⟩
    go_frame
    refine wpAnyC_rest [] [] rfl rfl kR kR kR ⟨hT6.b, (hT6.blk 4 rfl).1⟩ ?_
    unfold wpPure
    refine of_wpList_nil (P := Tryz.prog) (ops := #[]) ?_
    have q7 := (hT6.blk 4 rfl).1
    go_wp2_with (with_reducible refine wpList_ldS (n := 4) (us := mC m ad cap) A_mach kR wU wU (by assumption) wU wU ?_)
    refine (HO.out _ (hL.below hT6.b)).mono ?_
    rintro e w7 ⟨v7, rfl, ho7, b7⟩
    obtain ⟨a7, c7, rfl, hr7, _⟩ := ho7.reps
    have hU := hT6.call (SL.ofOwn ho7 b7)
    simp only [List.cons_append, List.nil_append] at hU
    go_wp2_with fail
    refine (mappedY_any _ (fun c => (idxO O2 c).getD (-1)) a7 c7 _ _ hr7 hol2 (fun x hx w' hw' => strands2_any a4 c4 O2 _ x w' ((hw'.block _ (hU.blk 2 rfl).2.2).trans (hU.blk 2 rfl).1) ((hU.rd 1 rfl).below hw'))).mono ?_
    rintro e w8 ⟨v8, rfl, ho8, b8⟩
    go_wp2_with fail
    go_ret2
    exact ⟨_, rfl, ho8.mono hU.b.size, bnext hU.b b8⟩

  ·have hT3 := hS2.box (.cells #[.slice none 0 0] 22)
   refine wpOp_value (v := .pointer (some ⟨(w1.drew).heap.size, 0, none⟩)) (w' := (w1.drew).alloc (.cells #[.slice none 0 0] 22)) (by rw [List.getElem?_toArray]; rfl) wU (by first | (go_simp; done) | (go_simp; rfl) | (simp [execOp, Act.eval, Result.andThen]; done)) ?_
   refine ⟨⟨hT3.b, (hT3.blk 2 rfl).1⟩, ?_⟩
   go_frame
   obtain ⟨W5, hW5⟩ : ∃ V, V = (w1.drew).alloc (.cells #[.slice none 0 0] 22) := ⟨_, rfl⟩
   obtain ⟨b9, hb9⟩ : ∃ b, b = (w1.drew).heap.size := ⟨_, rfl⟩
   rw [← hW5, ← hb9] at hT3
   simp only [← hW5, ← hb9]
   clear hW5 hb9
   refine wpAnyC_on [3] kR (by simp) ?_
   simp only [List.forall_mem_cons, List.not_mem_nil, false_implies, implies_true, and_true]
   refine wpOp_call (f := 57) (args := #[.slice al l.length cl, .func (.func 67) #[] #[.pointer (some ⟨w.heap.size, 0, none⟩), .pointer (some ⟨w.heap.size + 1, 0, none⟩)]]) (by rw [List.getElem?_toArray]; rfl) wU (by first | (go_simp; done) | (simp [execOp, Act.eval, Result.andThen]; done) | (simp [execOp, Act.eval, Result.andThen]; rfl)) ?_
   refine (mappedZ_any _ _ (fun s => itM m s n.toNat) al cl l _ (hL.below hT3.b) (by omega) (fun x hx w' hw' => strands1_any m ad cap _ _ x n w' ((hw'.block _ (hT3.blk 2 rfl).2.2).trans (hT3.blk 2 rfl).1) ((hw'.block _ (hT3.blk 1 rfl).2.2).trans (hT3.blk 1 rfl).1) ((hR.below hT3.b).below hw') hhi (HRNG.out x hx).1 (HRNG.out x hx).2 (by omega) (by omega))).mono ?_
   rintro e w3 ⟨v, rfl, ho, b3⟩
   rw [HAT.out] at ho
   obtain ⟨a3, c3, rfl, hr3, _⟩ := ho.reps
   have hT4 := hT3.call (SL.ofOwn ho b3)
   simp only [List.cons_append, List.nil_append] at hT4
   refine ⟨_, rfl, ⟨hT4.b, (hT4.blk 3 rfl).1⟩, ?_⟩
   go_frame
   refine wpAnyC_on [4] kR (by simp) ?_
   simp only [List.forall_mem_cons, List.not_mem_nil, false_implies, implies_true, and_true]
   refine wpOp_call (f := 63) (args := #[mV m ad cap, .slice a3 (atL m l n.toNat).length c3]) (by rw [List.getElem?_toArray]; rfl) wU (by first | (go_simp; done) | (simp [execOp, Act.eval, Result.andThen]; done) | (simp [execOp, Act.eval, Result.andThen]; rfl)) ?_
   refine (HO2.out a3 c3 _ (hT4.rd 0 rfl)).mono ?_
   rintro e w4 ⟨v4, rfl, ho4, b4⟩
   have hT5 := hT4.call (SL.ofOwn ho4 b4)
   simp only [List.cons_append, List.nil_append] at hT5
   obtain ⟨a4, c4, rfl, _⟩ := hT5.slice 0 rfl
   refine ⟨_, rfl, ⟨hT5.b, (hT5.blk 4 rfl).1⟩, ?_⟩
   go_frame
   refine wpAnyC_on [6] kR (by simp) ?_
   simp only [List.forall_mem_cons, List.not_mem_nil, false_implies, implies_true, and_true]
   refine wpOp_of_list (by rw [List.getElem?_toArray]; rfl) ?_
   refine wpList_sto1 (v := .slice a4 O2.length c4) 2 wU wU hT5 rfl ?_
   intro w6 hT6
   refine ⟨⟨hT6.b, (hT6.blk 4 rfl).1⟩, ?_⟩
   go_frame
   refine wpAnyC_rest [] [] rfl rfl kR kR kR ⟨hT6.b, (hT6.blk 4 rfl).1⟩ ?_
   unfold wpPure
   refine of_wpList_nil (P := Tryz.prog) (ops := #[]) ?_
   have q7 := (hT6.blk 4 rfl).1
   go_wp2_with (with_reducible refine wpList_ldS (n := 4) (us := mC m ad cap) A_mach kR wU wU (by assumption) wU wU ?_)
   refine (HO.out _ (hL.below hT6.b)).mono ?_
   rintro e w7 ⟨v7, rfl, ho7, b7⟩
   obtain ⟨a7, c7, rfl, hr7, _⟩ := ho7.reps
   have hU := hT6.call (SL.ofOwn ho7 b7)
   simp only [List.cons_append, List.nil_append] at hU
   go_wp2_with fail
   refine (mappedY_any _ (fun c => (idxO O2 c).getD (-1)) a7 c7 _ _ hr7 hol2 (fun x hx w' hw' => strands2_any a4 c4 O2 _ x w' ((hw'.block _ (hU.blk 3 rfl).2.2).trans (hU.blk 3 rfl).1) ((hU.rd 1 rfl).below hw'))).mono ?_
   rintro e w8 ⟨v8, rfl, ho8, b8⟩
   go_wp2_with fail
   go_ret2
   exact ⟨_, rfl, ho8.mono hU.b.size, bnext hU.b b8⟩
 ·obtain ⟨E, hE⟩ : ∃ E, E = weaveE m l n := ⟨_, rfl⟩
  rw [if_neg he]
  rw [← hE] at CW he ⊢
  have hne : (E != 0) = true := by simpa using he
  have HC := hid CW
  have q0 := (hS.blk 0 rfl).1
  clear hE CW HK
  go_enter Tryz.func26, Tryz.ntmps26
  go_wp2_with (first | (with_reducible refine wpList_ldS (n := 4) (us := mC m ad cap) A_mach kR wU wU (by assumption) wU wU ?_) | (with_reducible refine wpList_ldB F_int wU wU q0 wU ?_))
  refine HC.out.mono ?_
  rintro e w1 ⟨rfl, b1⟩
  have hS1 := hS.mono b1
  go_wp2_with fail
  go_ret2
  exact ⟨_, rfl, own_nil cIntS, hS1.b⟩
end Go.Proofs.YtndmeaoidihikaaGreatDoor
