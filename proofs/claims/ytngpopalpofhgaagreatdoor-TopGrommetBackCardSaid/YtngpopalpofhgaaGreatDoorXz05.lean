/- Contracts and plain facts that the claim uses (MaE MaF MaG MaH MaI MaJ MbS MbG MbN RlC). Conditions: as each one states. -/
import Derived.RangeFuncNested
import Derived.RangeFuncBound
import Derived.RangeFuncCalls
import Derived.RangeFuncLeaves
import Derived.RangeFuncFrom
import Derived.Shelf.Abstract
import Derived.Shelf.RegionOpen
import Derived.WalkKit
import Derived.OwnWalkIn
import Derived.TacticsInMore
import Derived.LoopNIn
import Derived.LoopIn
import Derived.Test.YtngpopalpofhgaaGreatDoorProg
import Derived.WalkSpells
import Derived.Maps.AppendAt
import Derived.Deep.Quiet
import Derived.Maps.Own
import Derived.Maps.OwnSet
import Derived.Maps.Views
import Derived.WalkLawsBesides
import Derived.Laws.EntriesVeiled
import Derived.Deep.QuietTactic
import Derived.BigQuiet
import Derived.Shelf.Strings.Trim
import Derived.Shelf.Strings.SlTrimAscii
import Derived.Shelf.Strings.Repeat
import Derived.Shelf.Strings.OnBuilder
import Derived.Shelf.Strconv.Itoa1
import Derived.Shelf.Strconv.Itoa3
import Derived.Shelf.LaysM
import Derived.Ground.Names2Prog
import Derived.Lib.OthersKept
import Derived.Deep.RegionHeld3
import Derived.Deep.AppendLies
import Derived.Deep.RegionHeldLaw
import Derived.Deep.RegionLaw
import Derived.StillTail
import Derived.Laws.Tables
import Derived.IntWalk
import Derived.Laws.CopyOwn
import Derived.BigRegion
import Derived.ChangeAlike
import Derived.Shelf.Bits.Mul64
import Derived.Lib.ItoaLen
import Derived.Lib.ItoaMem
import Derived.Sort.LoopGhostIn
import Derived.Maps.RangeWalk
import Derived.Sort.QuietThIn
import Derived.Test.YtngpopalpofhgaaGreatDoorXz01
import Derived.Test.YtngpopalpofhgaaGreatDoorXz02
import Derived.Test.YtngpopalpofhgaaGreatDoorXz03
import Derived.Test.YtngpopalpofhgaaGreatDoorXz04
set_option linter.all false

namespace Go.Proofs.YtngpopalpofhgaaGreatDoor
open Go.RowKit
set_option maxHeartbeats 8000000
set_option maxRecDepth 100000

theorem A_meet : Aggr Tryz.prog 241 := ⟨_, Tryz.underlying241, rfl⟩
abbrev meC (x : Nat × Int) : Array Value := #[.int .i64 x.1, .int .i64 x.2]
abbrev meO : Option (Nat × Int) → Array Value
 | some x => meC x
 | none => #[.int .i64 0, .int .i64 0]
/-- the answer of meet and first. -/
abbrev meV (r : Option (Nat × Int)) : Value := .tuple #[.agg (meO r), .bool r.isSome]
theorem results_cellSlot {P : Program} {w : World} {fn : Func} {tmps : Array Value} {t T k s : Nat} {us : Array Value} {T' : TypeId} {fr : Nat × Nat} {v : Value} (h : fn.results = #[.cell t T, .tmp s]) (ht : tmps.getD t undef = .pointer (some ⟨k, 0, none⟩)) (hs : tmps.getD s undef = v) (hu : Aggr P T) (hz : (P.info? T).map (·.size) = some us.size) (hb : w.heap[k]? = some (.cells us T' fr)) :
  (results fn tmps).run P w = .ok (.tuple #[.agg us, v]) w := by
 obtain ⟨d, hd, hdd⟩ := hu
 have := run_loadVar_row (P := P) w k T' T us fr d hb hd (by cases d <;> first | exact hdd | rfl | cases hdd) hz
 simp only [Array.getD_eq_getD_getElem?] at ht hs
 simp [results, h, ht, hs, asAddr, this]

theorem before_any (x y : Nat × Int) (w : World) :
  Calls Tryz.prog 236 #[.agg (meC x), .agg (meC y)] w fun r w' => r = .returned (.bool (befo x y)) ∧ Below w.heap.size w w' := by
 have hS := ((SL.nil w).box (.cells (meC x) 241)).box (.cells (meC y) 241)
 unfold befo
 by_cases h1 : (x.1 : Int) < y.1
 ·have d1 : decide ((x.1 : Int) < y.1) = true := decide_eq_true h1
  have d2 : decide (x.1 < y.1) = true := decide_eq_true (by omega)
  go_enter Tryz.func236, Tryz.ntmps236
  go_wp2
  go_ret
  exact ⟨by rw [d2]; rfl, hS.b⟩
 ·have d1 : decide ((x.1 : Int) < y.1) = false := decide_eq_false h1
  have d2 : decide (x.1 < y.1) = false := decide_eq_false (by omega)
  by_cases h3 : (x.1 : Int) = y.1
  ·have d3 : ((x.1 : Int) == y.1) = true := by simpa using h3
   have d4 : decide (x.1 = y.1) = true := decide_eq_true (by omega)
   rw [d2, d4]
   clear h3
   go_enter Tryz.func236, Tryz.ntmps236
   go_wp2
   go_ret
   exact ⟨by simp, hS.b⟩
  ·have d3 : ((x.1 : Int) == y.1) = false := by simpa using h3
   have d4 : decide (x.1 = y.1) = false := decide_eq_false (by omega)
   rw [d2, d4]
   clear h3
   go_enter Tryz.func236, Tryz.ntmps236
   go_wp2
   go_ret
   exact ⟨rfl, hS.b⟩

theorem meet_per2 {m : MacV} {a b : Int} (hg : m.gears ≤ 16) (a0 : 0 ≤ a) (a1 : a < 4 * m.gears) (b0 : 0 ≤ b) (b1 : b < 4 * m.gears) : ∃ L, 0 < L ∧ L ≤ 4096 ∧ itM m a L = a ∧ itM m b L = b := by
 obtain ⟨d, hd⟩ := ordM a0 a1
 obtain ⟨e, he⟩ := ordM b0 b1
 have h1 := hd.le
 have h2 := he.le
 rw [permM_len] at h1 h2
 refine ⟨e * d, Nat.mul_pos he.pos hd.pos, ?_, itP_mul hd.back e, ?_⟩
 ·have : e * d ≤ 64 * 64 := Nat.mul_le_mul (by omega) (by omega)
  omega
 ·rw [Nat.mul_comm]
  exact itP_mul he.back d

theorem meet_any (m : MacV) (ad : Option Addr) (cap : Nat) (a b : Int) (w : World) (hR : Ints w ad cap m.sw) (hg : m.gears ≤ 16) (a0 : 0 ≤ a) (a1 : a < 4 * m.gears) (b0 : 0 ≤ b) (b1 : b < 4 * m.gears) :
  Calls Tryz.prog 235 #[mV m ad cap, .int .i64 a, .int .i64 b] w fun r w' => r = .returned (meV (meetM m a b)) ∧ Below w.heap.size w w' := by
 have hcap := hR.le
 have hmx := hR.max
 obtain ⟨L, hL0, hL1, hLa, hLb⟩ := meet_per2 (m := m) hg a0 a1 b0 b1
 obtain ⟨r, hr⟩ : ∃ r, MeetR m a b r := ⟨_, meetM_spec m a b⟩
 have hrm : meetM m a b = r := (meetM_spec m a b).eq hr
 have CP := fun (s : Int) w (h0 : 0 ≤ s) (h1 : s < 4 * m.gears) => place_any m ad cap s w hg h0 h1
 have CN := fun (s : Int) w (h : Ints w ad cap m.sw) (h0 : 0 ≤ s) (h1 : s < 4 * m.gears) => mnext_any m ad cap s w h hg h0 h1
 have CS := fun (p : Int) w => shared_any m ad cap p w
 rw [hrm]
 have hS := ((SL.nil w).box (.cells (mC m ad cap) 76)).box (.cells #[.int .i64 0, .int .i64 0] 241)
 have HP := hid CP; have HN := hid CN; have HS := hid CS; have HM := hid hr; have HLA := hid hLa; have HLB := hid hLb
 clear CP CN CS hr hrm hLa hLb
 go_enter Tryz.func235, Tryz.ntmps235
 go_wp2_with fail
 go_loopw [8, 9, 10] (fun x y i wr => ∃ n : Nat, n < L ∧ x = .int .i64 (itM m a n) ∧ y = .int .i64 (itM m b n) ∧ i = .int .i64 n ∧ (∀ k, k < n → hitM m (itM m a k) (itM m b k) = false) ∧ SL w.heap.size w wr [pBlk (w.heap.size + 1) (.cells #[.int .i64 0, .int .i64 0] 241), pBlk w.heap.size (.cells (mC m ad cap) 76)]) (fun _ _ i _ => L - (intOf i).toNat)
 case atStart => exact ⟨0, hL0, rfl, rfl, rfl, fun k hk => by omega, by simpa using hS⟩
 case round =>
  clear hS
  obtain ⟨n, hn, rfl, rfl, rfl, hno, hSr⟩ := hrel
  have hX := itM_rng a0 a1 n
  have hY := itM_rng b0 b1 n
  have hX1 := itM_succ a0 a1 n
  have hY1 := itM_succ b0 b1 n
  have hRr := hR.below hSr.b
  obtain ⟨X, eX⟩ : ∃ X, X = itM m a n := ⟨_, rfl⟩
  obtain ⟨Y, eY⟩ : ∃ Y, Y = itM m b n := ⟨_, rfl⟩
  rw [← eX] at hX hX1 ⊢
  rw [← eY] at hY hY1 ⊢
  have CP := fun w => HP.out X w hX.1 hX.2
  have CQ := fun w => HP.out Y w hY.1 hY.2
  have CX := fun w h => HN.out X w h hX.1 hX.2
  have CY := fun w h => HN.out Y w h hY.1 hY.2
  have hhit : hitM m X Y = ((decide (0 ≤ placeM m X) && sharedM m (placeM m X)) && decide (placeM m X = placeM m Y)) := rfl
  obtain ⟨p, hp⟩ : ∃ p, p = placeM m X := ⟨_, rfl⟩
  obtain ⟨q, hq⟩ : ∃ q, q = placeM m Y := ⟨_, rfl⟩
  rw [← hp] at CP hhit
  rw [← hq] at CQ hhit
  have CS := HS.out p
  have q0 := (hSr.blk 1 rfl).1
  have HNO := hid hno; have EX := hid eX; have EY := hid eY; have X1 := hid hX1; have Y1 := hid hY1; have HPP := hid hp
  have HCX := hid CX; have HCY := hid CY
  clear hno eX eY hX1 hY1 CX CY hp hq
  -- what follows where there is no meeting
  by_cases hp0 : 0 ≤ p
  ·have hpd : decide (0 ≤ p) = true := decide_eq_true hp0
   cases hsh : sharedM m p
   ·rw [hsh] at CS
    rw [hsh, Bool.and_false, Bool.false_and] at hhit
    have HIT := hid hhit; have HC := hid CP; have HD := hid CS
    clear CP CQ CS hhit hsh
    go_wp2_with (with_reducible refine wpList_ldS (n := 4) (us := mC m ad cap) A_mach kR wU wU (by assumption) wU wU ?_)
    refine (HC.out _).mono ?_
    rintro e w1 ⟨rfl, b1⟩
    have hS1 := hSr.mono b1
    have q1 := (hS1.blk 1 rfl).1
    go_wp2_with (with_reducible refine wpList_ldS (n := 4) (us := mC m ad cap) A_mach kR wU wU (by assumption) wU wU ?_)
    refine (HD.out _).mono ?_
    rintro e w2 ⟨rfl, b2⟩
    have hS4 := hS1.mono b2
    clear q0 q1
    go_wp2_with fail
    have R4 := hR.below hS4.b
    have q4 := (hS4.blk 1 rfl).1
    refine wp_region_q kR kR ?_
    repeat (first | ((with_reducible refine wpB_loadS (n := 4) (us := mC m ad cap) A_mach kR wU wU (by assumption) wU wU ?_); (try simp only [Act.put, pA, pB, pC])) | ((refine wpB_call (.int .i64 (nextM m X)) wU (fun w' => ?_) (fun w' hw' => HCX.out w' (R4.below hw')) ?_); (focus (go_simp; done)); (try simp only [Act.put, pA, pB, pC])) | ((refine wpB_call (.int .i64 (nextM m Y)) wU (fun w' => ?_) (fun w' hw' => HCY.out w' (R4.below hw')) ?_); (focus (go_simp; done)); (try simp only [Act.put, pA, pB, pC])) |  ((with_reducible refine wpB_load (by first | exact F_int | exact F_u64s) wU wU (by assumption) wU ?_); (try simp only [Act.put, pA, pB, pC])) | ((refine wpQ_oneG ?_ wU (fun w' => ?_) ?_); rotate_left; (go_simp; rfl); (try simp only [Act.put, pA, pB, pC])))
    refine wpQuiet_nil ?_
    intro w5 hb5
    have hS5 := hS4.mono hb5
    rw [← X1.out, ← Y1.out]
    have hno2 : ∀ k, k < n + 1 → hitM m (itM m a k) (itM m b k) = false := by
     intro k hk
     by_cases e : k = n
     ·rw [e, ← EX.out, ← EY.out]; exact HIT.out
     ·exact HNO.out k (by omega)
    by_cases ea : itM m a (n + 1) = a
    ·by_cases eb : itM m b (n + 1) = b
     ·have hN : MeetR m a b none := meet_none (by omega) ea eb hno2
      have hrn := HM.out.eq hN
      subst hrn
      clear hno2 hN
      rw [ea, eb]
      have da : (a == a) = true := by simp
      have db : (b == b) = true := by simp
      clear ea eb
      go_wp2_with ((with_reducible refine wpList_stoR (us := #[.int .i64 0, .int .i64 0]) 0 wU wU (hS5) wU kR wU wU ?_); intro w6 hS6)
      exact bodyPost_ret (results_cellSlot rfl rfl rfl A_meet kR (hS6.blk 0 rfl).1) rfl ⟨rfl, hS6.b⟩
     ·have da : (itM m a (n + 1) == a) = true := by simpa using ea
      have db : (itM m b (n + 1) == b) = false := by simpa using eb
      have hnl : n + 1 ≠ L := fun e => eb (by rw [e]; exact HLB.out)
      have HNO2 := hid hno2
      clear ea eb hno2
      go_wp2_with fail
      exact ⟨⟨n + 1, by omega, rfl, rfl, by go_num, HNO2.out, hS5⟩, by simp [intOf]; omega⟩
    ·have da : (itM m a (n + 1) == a) = false := by simpa using ea
     have hnl : n + 1 ≠ L := fun e => ea (by rw [e]; exact HLA.out)
     have HNO2 := hid hno2
     clear ea hno2
     go_wp2_with fail
     exact ⟨⟨n + 1, by omega, rfl, rfl, by go_num, HNO2.out, hS5⟩, by simp [intOf]; omega⟩
   ·rw [hsh] at CS
    by_cases hpq : p = q
    ·rw [hsh, hpd, decide_eq_true hpq] at hhit
     have hM : MeetR m a b (some (n, p)) := ⟨by rw [← EX.out, ← EY.out]; exact hhit, by rw [← EX.out]; exact HPP.out, HNO.out⟩
     have hrn := HM.out.eq hM
     subst hrn
     have hpb : (p == q) = true := by simpa using hpq
     have HC := hid CP; have HD := hid CS; have HE := hid CQ
     clear CP CQ CS hhit hsh hpq hM
     go_wp2_with (with_reducible refine wpList_ldS (n := 4) (us := mC m ad cap) A_mach kR wU wU (by assumption) wU wU ?_)
     refine (HC.out _).mono ?_
     rintro e w1 ⟨rfl, b1⟩
     have hS1 := hSr.mono b1
     have q1 := (hS1.blk 1 rfl).1
     go_wp2_with (with_reducible refine wpList_ldS (n := 4) (us := mC m ad cap) A_mach kR wU wU (by assumption) wU wU ?_)
     refine (HD.out _).mono ?_
     rintro e w2 ⟨rfl, b2⟩
     have hS2 := hS1.mono b2
     have q2 := (hS2.blk 1 rfl).1
     clear q1
     go_wp2_with (with_reducible refine wpList_ldS (n := 4) (us := mC m ad cap) A_mach kR wU wU (by assumption) wU wU ?_)
     refine (HE.out _).mono ?_
     rintro e w3 ⟨rfl, b3⟩
     have hS3 := hS2.mono b3
     clear q0 q2
     go_wp2_with ((with_reducible refine wpList_stoR (us := #[.int .i64 n, .int .i64 p]) 0 wU wU (hS3) wU kR wU wU ?_); intro w6 hS6)
     exact bodyPost_ret (results_cellSlot rfl rfl rfl A_meet kR (hS6.blk 0 rfl).1) rfl ⟨rfl, hS6.b⟩
    ·rw [hsh, hpd, decide_eq_false hpq] at hhit
     have hpb : (p == q) = false := by simpa using hpq
     have HIT := hid hhit; have HC := hid CP; have HD := hid CS; have HE := hid CQ
     clear CP CQ CS hhit hsh hpq
     go_wp2_with (with_reducible refine wpList_ldS (n := 4) (us := mC m ad cap) A_mach kR wU wU (by assumption) wU wU ?_)
     refine (HC.out _).mono ?_
     rintro e w1 ⟨rfl, b1⟩
     have hS1 := hSr.mono b1
     have q1 := (hS1.blk 1 rfl).1
     go_wp2_with (with_reducible refine wpList_ldS (n := 4) (us := mC m ad cap) A_mach kR wU wU (by assumption) wU wU ?_)
     refine (HD.out _).mono ?_
     rintro e w2 ⟨rfl, b2⟩
     have hS2 := hS1.mono b2
     have q2 := (hS2.blk 1 rfl).1
     clear q1
     go_wp2_with (with_reducible refine wpList_ldS (n := 4) (us := mC m ad cap) A_mach kR wU wU (by assumption) wU wU ?_)
     refine (HE.out _).mono ?_
     rintro e w3 ⟨rfl, b3⟩
     have hS4 := hS2.mono b3
     clear q0 q2
     go_wp2_with fail
     have R4 := hR.below hS4.b
     have q4 := (hS4.blk 1 rfl).1
     refine wp_region_q kR kR ?_
     repeat (first | ((with_reducible refine wpB_loadS (n := 4) (us := mC m ad cap) A_mach kR wU wU (by assumption) wU wU ?_); (try simp only [Act.put, pA, pB, pC])) | ((refine wpB_call (.int .i64 (nextM m X)) wU (fun w' => ?_) (fun w' hw' => HCX.out w' (R4.below hw')) ?_); (focus (go_simp; done)); (try simp only [Act.put, pA, pB, pC])) | ((refine wpB_call (.int .i64 (nextM m Y)) wU (fun w' => ?_) (fun w' hw' => HCY.out w' (R4.below hw')) ?_); (focus (go_simp; done)); (try simp only [Act.put, pA, pB, pC])) |  ((with_reducible refine wpB_load (by first | exact F_int | exact F_u64s) wU wU (by assumption) wU ?_); (try simp only [Act.put, pA, pB, pC])) | ((refine wpQ_oneG ?_ wU (fun w' => ?_) ?_); rotate_left; (go_simp; rfl); (try simp only [Act.put, pA, pB, pC])))
     refine wpQuiet_nil ?_
     intro w5 hb5
     have hS5 := hS4.mono hb5
     rw [← X1.out, ← Y1.out]
     have hno2 : ∀ k, k < n + 1 → hitM m (itM m a k) (itM m b k) = false := by
      intro k hk
      by_cases e : k = n
      ·rw [e, ← EX.out, ← EY.out]; exact HIT.out
      ·exact HNO.out k (by omega)
     by_cases ea : itM m a (n + 1) = a
     ·by_cases eb : itM m b (n + 1) = b
      ·have hN : MeetR m a b none := meet_none (by omega) ea eb hno2
       have hrn := HM.out.eq hN
       subst hrn
       clear hno2 hN
       rw [ea, eb]
       have da : (a == a) = true := by simp
       have db : (b == b) = true := by simp
       clear ea eb
       go_wp2_with ((with_reducible refine wpList_stoR (us := #[.int .i64 0, .int .i64 0]) 0 wU wU (hS5) wU kR wU wU ?_); intro w6 hS6)
       exact bodyPost_ret (results_cellSlot rfl rfl rfl A_meet kR (hS6.blk 0 rfl).1) rfl ⟨rfl, hS6.b⟩
      ·have da : (itM m a (n + 1) == a) = true := by simpa using ea
       have db : (itM m b (n + 1) == b) = false := by simpa using eb
       have hnl : n + 1 ≠ L := fun e => eb (by rw [e]; exact HLB.out)
       have HNO2 := hid hno2
       clear ea eb hno2
       go_wp2_with fail
       exact ⟨⟨n + 1, by omega, rfl, rfl, by go_num, HNO2.out, hS5⟩, by simp [intOf]; omega⟩
     ·have da : (itM m a (n + 1) == a) = false := by simpa using ea
      have hnl : n + 1 ≠ L := fun e => ea (by rw [e]; exact HLA.out)
      have HNO2 := hid hno2
      clear ea hno2
      go_wp2_with fail
      exact ⟨⟨n + 1, by omega, rfl, rfl, by go_num, HNO2.out, hS5⟩, by simp [intOf]; omega⟩
  ·have hpd : decide (0 ≤ p) = false := decide_eq_false hp0
   rw [hpd, Bool.false_and, Bool.false_and] at hhit
   have HIT := hid hhit; have HC := hid CP
   clear CP CQ CS hhit
   go_wp2_with (with_reducible refine wpList_ldS (n := 4) (us := mC m ad cap) A_mach kR wU wU (by assumption) wU wU ?_)
   refine (HC.out _).mono ?_
   rintro e w1 ⟨rfl, b1⟩
   have hS4 := hSr.mono b1
   clear q0
   go_wp2_with fail
   have R4 := hR.below hS4.b
   have q4 := (hS4.blk 1 rfl).1
   refine wp_region_q kR kR ?_
   repeat (first | ((with_reducible refine wpB_loadS (n := 4) (us := mC m ad cap) A_mach kR wU wU (by assumption) wU wU ?_); (try simp only [Act.put, pA, pB, pC])) | ((refine wpB_call (.int .i64 (nextM m X)) wU (fun w' => ?_) (fun w' hw' => HCX.out w' (R4.below hw')) ?_); (focus (go_simp; done)); (try simp only [Act.put, pA, pB, pC])) | ((refine wpB_call (.int .i64 (nextM m Y)) wU (fun w' => ?_) (fun w' hw' => HCY.out w' (R4.below hw')) ?_); (focus (go_simp; done)); (try simp only [Act.put, pA, pB, pC])) |  ((with_reducible refine wpB_load (by first | exact F_int | exact F_u64s) wU wU (by assumption) wU ?_); (try simp only [Act.put, pA, pB, pC])) | ((refine wpQ_oneG ?_ wU (fun w' => ?_) ?_); rotate_left; (go_simp; rfl); (try simp only [Act.put, pA, pB, pC])))
   refine wpQuiet_nil ?_
   intro w5 hb5
   have hS5 := hS4.mono hb5
   rw [← X1.out, ← Y1.out]
   have hno2 : ∀ k, k < n + 1 → hitM m (itM m a k) (itM m b k) = false := by
    intro k hk
    by_cases e : k = n
    ·rw [e, ← EX.out, ← EY.out]; exact HIT.out
    ·exact HNO.out k (by omega)
   by_cases ea : itM m a (n + 1) = a
   ·by_cases eb : itM m b (n + 1) = b
    ·have hN : MeetR m a b none := meet_none (by omega) ea eb hno2
     have hrn := HM.out.eq hN
     subst hrn
     clear hno2 hN
     rw [ea, eb]
     have da : (a == a) = true := by simp
     have db : (b == b) = true := by simp
     clear ea eb
     go_wp2_with ((with_reducible refine wpList_stoR (us := #[.int .i64 0, .int .i64 0]) 0 wU wU (hS5) wU kR wU wU ?_); intro w6 hS6)
     exact bodyPost_ret (results_cellSlot rfl rfl rfl A_meet kR (hS6.blk 0 rfl).1) rfl ⟨rfl, hS6.b⟩
    ·have da : (itM m a (n + 1) == a) = true := by simpa using ea
     have db : (itM m b (n + 1) == b) = false := by simpa using eb
     have hnl : n + 1 ≠ L := fun e => eb (by rw [e]; exact HLB.out)
     have HNO2 := hid hno2
     clear ea eb hno2
     go_wp2_with fail
     exact ⟨⟨n + 1, by omega, rfl, rfl, by go_num, HNO2.out, hS5⟩, by simp [intOf]; omega⟩
   ·have da : (itM m a (n + 1) == a) = false := by simpa using ea
    have hnl : n + 1 ≠ L := fun e => ea (by rw [e]; exact HLA.out)
    have HNO2 := hid hno2
    clear ea hno2
    go_wp2_with fail
    exact ⟨⟨n + 1, by omega, rfl, rfl, by go_num, HNO2.out, hS5⟩, by simp [intOf]; omega⟩
end Go.Proofs.YtngpopalpofhgaaGreatDoor

namespace Go.Proofs.YtngpopalpofhgaaGreatDoor
open Go.RowKit
set_option maxHeartbeats 8000000
set_option maxRecDepth 100000

theorem intsTake {w : World} {a : Option Addr} {cap m : Nat} {r : List Int} (h : Ints w a cap r) (hm : m ≤ r.length) : Ints w a cap (r.take m) := by
 have h1 := h.le
 refine ⟨cIntS, by simp; omega, h.2.2.1, h.2.2.2.1, fun j u hj => ?_⟩
 have e : ∀ L : List Int, (L.flatMap fun x => (cInt x).cells.toList) = L.map cInt := by
  intro L
  induction L with
  | nil => rfl
  | cons x r ih => rw [List.flatMap_cons, ih]; rfl
 refine h.2.2.2.2 j u ?_
 rw [e] at hj ⊢
 rw [List.map_take, List.getElem?_take] at hj
 split at hj
 ·exact hj
 ·cases hj
/-- the pairs gone through at a place of both loops. -/
def pairsAt (l : List Int) (i j : Nat) : List (Int × Int) := pairsTo l i ++ (l.take j).map fun b => (atD 0 l i, b)
theorem pairsAt_zero (l : List Int) (i : Nat) : pairsAt l i 0 = pairsTo l i := by simp [pairsAt]
theorem pairsAt_last (l : List Int) (i : Nat) : pairsAt l i i = pairsTo l (i + 1) := by rw [pairsTo_succ]; rfl
theorem take_snoc {l : List Int} {j : Nat} (h : j < l.length) : l.take (j + 1) = l.take j ++ [atD 0 l j] := by
 rw [List.take_succ_eq_append_getElem h]
 simp [atD, h]
theorem first_step (m : MacV) {l : List Int} {i j : Nat} (h : j < l.length) : firstTo m (pairsAt l i (j + 1)) = bestS (firstTo m (pairsAt l i j)) (meetM m (atD 0 l i) (atD 0 l j)) := by
 unfold pairsAt
 rw [take_snoc h, List.map_append, ← List.append_assoc]
 exact firstTo_snoc m _ _

theorem firstB_any (m : MacV) (ad al : Option Addr) (cap cl : Nat) (l : List Int) (w : World) (hR : Ints w ad cap m.sw) (hL : Ints w al cl l) (hg : m.gears ≤ 16) (hl : ∀ x ∈ l, 0 ≤ x ∧ x < 4 * m.gears) :
  Calls Tryz.prog 207 #[mV m ad cap, .slice al l.length cl] w fun r w' => r = .returned (meV (firstM m l)) ∧ Below w.heap.size w w' := by
 have hcap := hL.le
 have hmx := hL.max
 have CM := fun (i j : Nat) w (h : Ints w ad cap m.sw) (hi : i < l.length) (hj : j < l.length) => meet_any m ad cap (atD 0 l i) (atD 0 l j) w h hg (hl _ (atD_memZ (by omega) (by omega))).1 (hl _ (atD_memZ (by omega) (by omega))).2 (hl _ (atD_memZ (by omega) (by omega))).1 (hl _ (atD_memZ (by omega) (by omega))).2
 have hS := (((SL.nil w).box (.cells (mC m ad cap) 76)).box (.cells #[.int .i64 0, .int .i64 0] 241)).box (.cells (meO none) 241)
 simp only [World.size_alloc] at hS
 have HM := hid CM
 clear CM hl
 go_enter Tryz.func207, Tryz.ntmps207
 go_wp2_with fail
 go_loopw [7, 16] (fun fo i wr => ∃ k : Nat, k ≤ l.length ∧ fo = .bool (firstTo m (pairsTo l k)).isSome ∧ i = .int .i64 k ∧ SL w.heap.size w wr [pBlk (w.heap.size + 1 + 1) (.cells (meO (firstTo m (pairsTo l k))) 241), pBlk (w.heap.size + 1) (.cells #[.int .i64 0, .int .i64 0] 241), pBlk w.heap.size (.cells (mC m ad cap) 76)]) (fun _ i _ => l.length - (intOf i).toNat)
 case atStart => exact ⟨0, by omega, rfl, rfl, hS⟩
 case round =>
  clear hS
  obtain ⟨k, hk, rfl, rfl, hSr⟩ := hrel
  by_cases hlt : k < l.length
  ·have hLr := hL.below hSr.b
   go_wp2_with (with_reducible refine wpList_idx _ 0 E_ints F_int cInt1 wU wU (hLr) oD oD (fun _ => wU) (fun _ => ?_))
   go_loopw [7, 25] (fun fo i wq => ∃ j : Nat, j ≤ k ∧ fo = .bool (firstTo m (pairsAt l k j)).isSome ∧ i = .int .i64 j ∧ SL w.heap.size w wq [pBlk (w.heap.size + 1 + 1) (.cells (meO (firstTo m (pairsAt l k j))) 241), pBlk (w.heap.size + 1) (.cells #[.int .i64 0, .int .i64 0] 241), pBlk w.heap.size (.cells (mC m ad cap) 76)]) (fun _ i _ => k - (intOf i).toNat)
   case atStart => exact ⟨0, by omega, by rw [pairsAt_zero], rfl, by rw [pairsAt_zero]; exact hSr⟩
   case round =>
    clear hSr hLr
    obtain ⟨j, hj, rfl, rfl, hSq⟩ := hrel
    by_cases hjk : j < k
    ·have hst := first_step m (l := l) (i := k) (j := j) (by omega)
     have hCM := fun w h => HM.out k j w h hlt (by omega)
     have hRq := hR.below hSq.b
     have hLq := intsTake (hL.below hSq.b) (m := k) (by omega)
     have hlk : (l.take k).length = k := by simp; omega
     have hat : atD 0 (l.take k) j = atD 0 l j := atD_take hjk
     obtain ⟨B, hB⟩ : ∃ B, B = firstTo m (pairsAt l k j) := ⟨_, rfl⟩
     obtain ⟨R, hRR⟩ : ∃ R, R = meetM m (atD 0 l k) (atD 0 l j) := ⟨_, rfl⟩
     rw [← hB, ← hRR] at hst
     rw [← hRR] at hCM
     rw [← hB] at hSq ⊢
     have HC := hid hCM
     have HAT := hid hat
     have q2 := (hSq.blk 2 rfl).1
     clear hCM hB hRR hat
     cases R with
     | none =>
      have hst2 : firstTo m (pairsAt l k (j + 1)) = B := hst
      have HST := hid hst2
      clear hst hst2
      go_wp2_with (first | ((with_reducible refine wpList_idxN _ 0 E_ints F_int cInt1 wU wU (hLq) (hlk) oD oD (fun _ => wU) (fun _ => ?_)); rw [HAT.out]) | (with_reducible refine wpList_ldS (n := 4) (us := mC m ad cap) A_mach kR wU wU (by assumption) wU wU ?_))
      refine (HC.out _ hRq).mono ?_
      rintro e w4 ⟨rfl, b4⟩
      have hS4 := hSq.mono b4
      have hS5 := hS4.box (.cells #[.int .i64 0, .int .i64 0] 241)
      clear q2
      go_wp2_with ((with_reducible refine wpList_stoR (us := #[.int .i64 0, .int .i64 0]) 0 wU wU (hS5) wU kR wU wU ?_); intro w6 hS6)
      exact ⟨⟨j + 1, by omega, by rw [HST.out], by go_num, by rw [HST.out]; exact hS6.tail⟩, by simp [intOf]; omega⟩
     | some v =>
      cases B with
      | none =>
       have hst2 : firstTo m (pairsAt l k (j + 1)) = some v := hst
       have HST := hid hst2
       clear hst hst2
       go_wp2_with (first | ((with_reducible refine wpList_idxN _ 0 E_ints F_int cInt1 wU wU (hLq) (hlk) oD oD (fun _ => wU) (fun _ => ?_)); rw [HAT.out]) | (with_reducible refine wpList_ldS (n := 4) (us := mC m ad cap) A_mach kR wU wU (by assumption) wU wU ?_))
       refine (HC.out _ hRq).mono ?_
       rintro e w4 ⟨rfl, b4⟩
       have hS4 := hSq.mono b4
       have hS5 := hS4.box (.cells #[.int .i64 0, .int .i64 0] 241)
       clear q2
       have hS6 : ∀ w6, SL w.heap.size w w6 [pBlk w4.heap.size (.cells (meC v) 241), pBlk (w.heap.size + 1 + 1) (.cells (meO none) 241), pBlk (w.heap.size + 1) (.cells #[.int .i64 0, .int .i64 0] 241), pBlk w.heap.size (.cells (mC m ad cap) 76)] → w6.heap[w4.heap.size]? = some (.cells (meC v) 241) := fun w6 h => (h.blk 0 rfl).1
       go_wp2_with (first | (((with_reducible refine wpList_stoR (us := meC v) 0 wU wU (hS5) wU kR wU wU ?_); intro w6 hT6); have q6 := hS6 _ hT6) | (with_reducible refine wpList_ldS (n := 2) (us := meC v) A_meet kR wU wU (by assumption) wU wU ?_) | ((with_reducible refine wpList_stoR (us := meC v) 1 wU wU (hT6) wU kR wU wU ?_); intro w7 hT7))
       exact ⟨⟨j + 1, by omega, by rw [HST.out]; rfl, by go_num, by rw [HST.out]; exact hT7.tail⟩, by simp [intOf]; omega⟩
      | some u =>
       cases hb : befo v u
       ·have hst2 : firstTo m (pairsAt l k (j + 1)) = some u := by rw [hst]; show (if befo v u then some v else some u) = _; rw [hb]; rfl
        have CB := fun w => before_any v u w
        rw [hb] at CB
        have HST := hid hst2; have HB := hid CB
        clear hst hst2 CB hb
        go_wp2_with (first | ((with_reducible refine wpList_idxN _ 0 E_ints F_int cInt1 wU wU (hLq) (hlk) oD oD (fun _ => wU) (fun _ => ?_)); rw [HAT.out]) | (with_reducible refine wpList_ldS (n := 4) (us := mC m ad cap) A_mach kR wU wU (by assumption) wU wU ?_))
        refine (HC.out _ hRq).mono ?_
        rintro e w4 ⟨rfl, b4⟩
        have hS4 := hSq.mono b4
        have hS5 := hS4.box (.cells #[.int .i64 0, .int .i64 0] 241)
        clear q2
        go_wp2_with (first | (((with_reducible refine wpList_stoR (us := meC v) 0 wU wU (hS5) wU kR wU wU ?_); intro w6 hT6); have q6 := (hT6.blk 0 rfl).1; have q7 := (hT6.blk 1 rfl).1) | (with_reducible refine wpList_ldS (n := 2) (us := meC v) A_meet kR wU wU (by assumption) wU wU ?_) | (with_reducible refine wpList_ldS (n := 2) (us := meC u) A_meet kR wU wU (by assumption) wU wU ?_))
        refine (HB.out _).mono ?_
        rintro e w7 ⟨rfl, b7⟩
        have hT7 := hT6.mono b7
        clear q6 q7
        go_wp2_with fail
        exact ⟨⟨j + 1, by omega, by rw [HST.out]; rfl, by go_num, by rw [HST.out]; exact hT7.tail⟩, by simp [intOf]; omega⟩
       ·have hst2 : firstTo m (pairsAt l k (j + 1)) = some v := by rw [hst]; show (if befo v u then some v else some u) = _; rw [hb]; rfl
        have CB := fun w => before_any v u w
        rw [hb] at CB
        have HST := hid hst2; have HB := hid CB
        clear hst hst2 CB hb
        go_wp2_with (first | ((with_reducible refine wpList_idxN _ 0 E_ints F_int cInt1 wU wU (hLq) (hlk) oD oD (fun _ => wU) (fun _ => ?_)); rw [HAT.out]) | (with_reducible refine wpList_ldS (n := 4) (us := mC m ad cap) A_mach kR wU wU (by assumption) wU wU ?_))
        refine (HC.out _ hRq).mono ?_
        rintro e w4 ⟨rfl, b4⟩
        have hS4 := hSq.mono b4
        have hS5 := hS4.box (.cells #[.int .i64 0, .int .i64 0] 241)
        clear q2
        go_wp2_with (first | (((with_reducible refine wpList_stoR (us := meC v) 0 wU wU (hS5) wU kR wU wU ?_); intro w6 hT6); have q6 := (hT6.blk 0 rfl).1; have q7 := (hT6.blk 1 rfl).1) | (with_reducible refine wpList_ldS (n := 2) (us := meC v) A_meet kR wU wU (by assumption) wU wU ?_) | (with_reducible refine wpList_ldS (n := 2) (us := meC u) A_meet kR wU wU (by assumption) wU wU ?_))
        refine (HB.out _).mono ?_
        rintro e w7 ⟨rfl, b7⟩
        have hT7 := hT6.mono b7
        clear q6 q7
        have q8 := (hT7.blk 0 rfl).1
        go_wp2_with (first | (with_reducible refine wpList_ldS (n := 2) (us := meC v) A_meet kR wU wU (by assumption) wU wU ?_) | ((with_reducible refine wpList_stoR (us := meC v) 1 wU wU (hT7) wU kR wU wU ?_); intro w8 hT8))
        exact ⟨⟨j + 1, by omega, by rw [HST.out]; rfl, by go_num, by rw [HST.out]; exact hT8.tail⟩, by simp [intOf]; omega⟩
    ·have hjj : j = k := by omega
     subst hjj
     have e := pairsAt_last l j
     have HE := hid e
     clear e
     go_wp2_with fail
     exact ⟨⟨j + 1, by omega, by rw [HE.out], by go_num, by rw [← HE.out]; exact hSq⟩, by simp [intOf]; omega⟩
  ·have hkk : k = l.length := by omega
   subst hkk
   have e : firstTo m (pairsTo l l.length) = firstM m l := rfl
   rw [e] at hSr ⊢
   cases hf : firstM m l with
   | none =>
    rw [hf] at hSr
    have q0 := (hSr.blk 0 rfl).1
    have HF := hid hf
    clear hf e
    go_wp2_with (first | (with_reducible refine wpList_ldS (n := 2) (us := #[.int .i64 0, .int .i64 0]) A_meet kR wU wU (by assumption) wU wU ?_) | ((with_reducible refine wpList_stoR (us := #[.int .i64 0, .int .i64 0]) 1 wU wU (hSr) wU kR wU wU ?_); intro w6 hS6))
    exact bodyPost_ret (results_cellSlot rfl rfl rfl A_meet kR (hS6.blk 1 rfl).1) rfl ⟨by rw [HF.out]; rfl, hS6.b⟩
   | some v =>
    rw [hf] at hSr
    have q0 := (hSr.blk 0 rfl).1
    have HF := hid hf
    clear hf e
    go_wp2_with (first | (with_reducible refine wpList_ldS (n := 2) (us := meC v) A_meet kR wU wU (by assumption) wU wU ?_) | ((with_reducible refine wpList_stoR (us := meC v) 1 wU wU (hSr) wU kR wU wU ?_); intro w6 hS6))
    exact bodyPost_ret (results_cellSlot rfl rfl rfl A_meet kR (hS6.blk 1 rfl).1) rfl ⟨by rw [HF.out]; rfl, hS6.b⟩
end Go.Proofs.YtngpopalpofhgaaGreatDoor

namespace Go.Proofs.YtngpopalpofhgaaGreatDoor
open Go.RowKit
set_option maxHeartbeats 8000000
set_option maxRecDepth 100000

noncomputable def meetsM (m : MacV) (l : List Int) (n : Int) : Bool := match firstM m l with
 | none => false
 | some x => decide ((x.1 : Int) ≤ n)
theorem meets_any (m : MacV) (ad al : Option Addr) (cap cl : Nat) (l : List Int) (n : Int) (w : World) (hR : Ints w ad cap m.sw) (hL : Ints w al cl l) (hg : m.gears ≤ 16) (hl : ∀ x ∈ l, 0 ≤ x ∧ x < 4 * m.gears) :
  Calls Tryz.prog 155 #[mV m ad cap, .slice al l.length cl, .int .i64 n] w fun r w' => r = .returned (.bool (meetsM m l n)) ∧ Below w.heap.size w w' := by
 have CF := fun w h1 h2 => firstB_any m ad al cap cl l w h1 h2 hg hl
 have hS := (SL.nil w).box (.cells (mC m ad cap) 76)
 have hdef : meetsM m l n = match firstM m l with | none => false | some x => decide ((x.1 : Int) ≤ n) := rfl
 rw [hdef]
 clear hdef
 cases hf : firstM m l with
 | none =>
  rw [hf] at CF
  have HF := hid CF
  clear CF hf
  go_enter Tryz.func155, Tryz.ntmps155
  go_wp2_with fail
  refine (HF.out _ (hR.below hS.b) (hL.below hS.b)).mono ?_
  rintro e w1 ⟨rfl, b1⟩
  have hS1 := (hS.mono b1).box (.cells #[.int .i64 0, .int .i64 0] 241)
  go_wp2_with ((with_reducible refine wpList_stoR (us := #[.int .i64 0, .int .i64 0]) 0 wU wU (hS1) wU kR wU wU ?_); intro w2 hS2)
  go_ret
  exact ⟨rfl, hS2.b⟩
 | some v =>
  rw [hf] at CF
  have HF := hid CF
  clear CF hf
  cases hd : decide ((v.1 : Int) ≤ n)
  all_goals
   go_enter Tryz.func155, Tryz.ntmps155
   go_wp2_with fail
   refine (HF.out _ (hR.below hS.b) (hL.below hS.b)).mono ?_
   rintro e w1 ⟨rfl, b1⟩
   have hS1 := (hS.mono b1).box (.cells #[.int .i64 0, .int .i64 0] 241)
   go_wp2_with (first | (((with_reducible refine wpList_stoR (us := meC v) 0 wU wU (hS1) wU kR wU wU ?_); intro w2 hS2); have q2 := (hS2.blk 0 rfl).1) | (with_reducible refine wpList_ldB F_int wU wU q2 wU ?_))
   go_ret
   exact ⟨by show _ = Ending.returned (.bool (decide ((v.1 : Int) ≤ n))); rw [hd]; rfl, hS2.b⟩

end Go.Proofs.YtngpopalpofhgaaGreatDoor

namespace Go.Proofs.YtngpopalpofhgaaGreatDoor
open Go.RowKit
set_option maxHeartbeats 8000000
set_option maxRecDepth 100000

def ChkM (m : MacV) (ad : Option Addr) (cap : Nat) : Prop := ∀ w, Ints w ad cap m.sw → Calls Tryz.prog 204 #[mV m ad cap] w fun r w' => r = .returned (.int .i64 (macE m)) ∧ Below w.heap.size w w'
/-- the error of a load. -/
def loadGo (m : MacV) : List Int → List Int → Int
 | _, [] => 0
 | pre, s :: r => if s < 0 ∨ 4 * m.gears ≤ s then 10 else if s ∈ pre then 9 else loadGo m (pre ++ [s]) r
def loadE (m : MacV) (l : List Int) : Int := if macE m ≠ 0 then macE m else if 4 * m.gears < l.length then 5 else loadGo m [] l
def ChkL (m : MacV) (ad : Option Addr) (cap : Nat) (al : Option Addr) (cl : Nat) (l : List Int) : Prop := ∀ w, Ints w ad cap m.sw → Ints w al cl l →
 Calls Tryz.prog 153 #[mV m ad cap, .slice al l.length cl] w fun r w' => r = .returned (.int .i64 (loadE m l)) ∧ Below w.heap.size w w'

end Go.Proofs.YtngpopalpofhgaaGreatDoor

namespace Go.Proofs.YtngpopalpofhgaaGreatDoor
open Go.RowKit
set_option maxHeartbeats 8000000
set_option maxRecDepth 100000

/-- the slots as an int, of any gears. -/
theorem slotsW_any (m : MacV) (ad : Option Addr) (cap : Nat) : ∃ z : Int, (0 ≤ m.gears → m.gears ≤ 16 → z = 4 * m.gears) ∧ ∀ w,
  Calls Tryz.prog 205 #[mV m ad cap] w fun r w' => r = .returned (.int .i64 z) ∧ Below w.heap.size w w' := by
 refine ⟨wrap64 (4 * m.gears), fun h0 h1 => IntWalk.wrap64_in _ (by omega), fun w => ?_⟩
 go_enter Tryz.func205, Tryz.ntmps205
 go_wp2_with fail
 go_ret
 exact ⟨rfl, bal (Below.refl _ _) _⟩

theorem loadGo_step (m : MacV) {l : List Int} {k : Nat} (h : k < l.length) : loadGo m (l.take k) (l.drop k) = if atD 0 l k < 0 ∨ 4 * m.gears ≤ atD 0 l k then 10 else if atD 0 l k ∈ l.take k then 9 else loadGo m (l.take (k + 1)) (l.drop (k + 1)) := by
 rw [take_snoc h]
 conv => lhs; rw [List.drop_eq_getElem_cons h]
 rw [loadGo]
 have e : atD 0 l k = l[k] := by simp [atD, h]
 rw [e]

theorem CheckLoad_any (m : MacV) (ad : Option Addr) (cap : Nat) (al : Option Addr) (cl : Nat) (l : List Int) (HK : ChkM m ad cap) : ChkL m ad cap al cl l := by
 intro w hR hL
 have hcap := hL.le
 have hmx := hL.max
 obtain ⟨z, hz, HZ⟩ := slotsW_any m ad cap
 have hS := (SL.nil w).box (.cells (mC m ad cap) 76)
 have q1 := (hS.blk 0 rfl).1
 have R1 := hR.below hS.b
 by_cases he : macE m = 0
 ·have hok := (macE_zero he).1
  have hlo := hok.lo
  have hhi := hok.hi
  have hz2 := hz (by omega) (by omega)
  subst hz2
  unfold ChkM at HK
  rw [he] at HK
  by_cases hb : 4 * m.gears < l.length
  ·have hv : loadE m l = 5 := by unfold loadE; rw [if_neg (by simp [he]), if_pos hb]
   have HV := hid hv
   have hbd : decide (4 * m.gears < (l.length : Int)) = true := decide_eq_true hb
   clear hv he hok hz hb
   go_enter Tryz.func153, Tryz.ntmps153
   go_wp2_with fail
   refine wp_region_qt 8 kR kR ?_
   simp only [List.take_succ_cons, List.take_zero, List.drop_succ_cons, List.drop_zero]
   repeat (first | ((with_reducible refine wpB_loadS (n := 4) (us := mC m ad cap) A_mach kR wU wU (by assumption) wU wU ?_); (try simp only [Act.put, pA, pB, pC])) | ((refine wpB_call (.int .i64 0) wU (fun w' => ?_) (fun w' hw' => HK w' (R1.below hw')) ?_); (focus (go_simp; done)); (try simp only [Act.put, pA, pB, pC])) | ((refine wpB_call (.int .i64 (4 * m.gears)) wU (fun w' => ?_) (fun w' hw' => HZ w') ?_); (focus (go_simp; done)); (try simp only [Act.put, pA, pB, pC])) | ((with_reducible refine wpB_when wU wU wU ?_); (try simp only [Act.put, pA, pB, pC])) |  ((with_reducible refine wpB_load (by first | exact F_int | exact F_u64s) wU wU (by assumption) wU ?_); (try simp only [Act.put, pA, pB, pC])) | ((refine wpQ_oneG ?_ wU (fun w' => ?_) ?_); rotate_left; (go_simp; rfl); (try simp only [Act.put, pA, pB, pC])))
   refine wpQuiet_nil ?_
   intro w1 hb1
   have hS1 := hS.mono hb1
   go_wp2_with (go_at_call 152; refine (mfirst_any _ _ [_, _] _ (reps_newN cIntS [_, _] 2 rfl (by decide) _ _ (by simp) rfl)).mono ?_; rw [firstE_z, firstE_head (by decide)]; rintro e w' ⟨rfl, rfl⟩)
   go_ret
   exact ⟨by rw [HV.out]; rfl, bal hS1.b _⟩
  ·have hv : loadE m l = loadGo m [] l := by unfold loadE; rw [if_neg (by simp [he]), if_neg hb]
   have HV := hid hv
   have hbd : decide (4 * m.gears < (l.length : Int)) = false := decide_eq_false hb
   clear hv he hok hz hb
   go_enter Tryz.func153, Tryz.ntmps153
   go_wp2_with fail
   refine wp_region_qt 8 kR kR ?_
   simp only [List.take_succ_cons, List.take_zero, List.drop_succ_cons, List.drop_zero]
   repeat (first | ((with_reducible refine wpB_loadS (n := 4) (us := mC m ad cap) A_mach kR wU wU (by assumption) wU wU ?_); (try simp only [Act.put, pA, pB, pC])) | ((refine wpB_call (.int .i64 0) wU (fun w' => ?_) (fun w' hw' => HK w' (R1.below hw')) ?_); (focus (go_simp; done)); (try simp only [Act.put, pA, pB, pC])) | ((refine wpB_call (.int .i64 (4 * m.gears)) wU (fun w' => ?_) (fun w' hw' => HZ w') ?_); (focus (go_simp; done)); (try simp only [Act.put, pA, pB, pC])) | ((with_reducible refine wpB_when wU wU wU ?_); (try simp only [Act.put, pA, pB, pC])) |  ((with_reducible refine wpB_load (by first | exact F_int | exact F_u64s) wU wU (by assumption) wU ?_); (try simp only [Act.put, pA, pB, pC])) | ((refine wpQ_oneG ?_ wU (fun w' => ?_) ?_); rotate_left; (go_simp; rfl); (try simp only [Act.put, pA, pB, pC])))
   refine wpQuiet_nil ?_
   intro w1 hb1
   have hS1 := hS.mono hb1
   go_wp2_with (go_at_call 152; refine (mfirst_any _ _ [_, _] _ (reps_newN cIntS [_, _] 2 rfl (by decide) _ _ (by simp) rfl)).mono ?_; rw [firstE_z, firstE_z, firstE_nil]; rintro e w' ⟨rfl, rfl⟩)
   have hS2 := hS1.al (.cells #[.int .i64 0, .int .i64 0] 26)
   clear hS hS1 q1 R1 hb1
   go_loopw [24] (fun i wr => ∃ k : Nat, k ≤ l.length ∧ i = .int .i64 k ∧ loadGo m (l.take k) (l.drop k) = loadGo m [] l ∧ SL w.heap.size w wr [pBlk w.heap.size (.cells (mC m ad cap) 76)]) (fun i _ => l.length - (intOf i).toNat)
   case atStart => exact ⟨0, by omega, rfl, rfl, hS2⟩
   case round =>
    clear hS2
    obtain ⟨k, hk, rfl, hgo, hSr⟩ := hrel
    have hLr := hL.below hSr.b
    by_cases hlt : k < l.length
    ·have hst := loadGo_step m hlt
     rw [hgo] at hst
     obtain ⟨x, hx⟩ : ∃ x, x = atD 0 l k := ⟨_, rfl⟩
     rw [← hx] at hst
     have HX := hid hx
     clear hx hgo
     have hkcl : k ≤ cl := by omega
     have hLk := intsTake hLr (m := k) (by omega)
     have hkl : (l.take k).length = k := by simp; omega
     have CC := fun w h => sContains_any al cl (l.take k) x w h
     rw [hkl] at CC
     clear hkl
     have q1 := (hSr.blk 0 rfl).1
     by_cases c1 : x < 0
     ·have d1 : decide (x < 0) = true := decide_eq_true c1
      rw [if_pos (.inl c1)] at hst
      have HST := hid hst
      clear hst
      cases hc : (l.take k).contains x
      all_goals
       rw [hc] at CC
       have HC := hid CC
       clear CC hc
      ·go_wp2_with ((with_reducible refine wpList_idx _ 0 E_ints F_int cInt1 wU wU (hLr) oD oD (fun _ => wU) (fun _ => ?_)); rw [← HX.out])
       refine wp_region_qt 15 kR kR ?_
       simp only [List.take_succ_cons, List.take_zero, List.drop_succ_cons, List.drop_zero]
       repeat (first | ((with_reducible refine wpB_loadS (n := 4) (us := mC m ad cap) A_mach kR wU wU (by assumption) wU wU ?_); (try simp only [Act.put, pA, pB, pC])) | ((refine wpB_call (.int .i64 (4 * m.gears)) wU (fun w' => ?_) (fun w' hw' => HZ w') ?_); (focus (go_simp; done)); (try simp only [Act.put, pA, pB, pC])) | ((refine wpB_call (.bool false) wU (fun w' => ?_) (fun w' hw' => calls_below (HC.out w' (hLk.below hw'))) ?_); (focus (go_simp; done)); (try simp only [Act.put, pA, pB, pC])) | ((with_reducible refine wpB_when wU wU wU ?_); (try simp only [Act.put, pA, pB, pC])) | ((with_reducible refine wpQ_skip wU ?_); (try simp only [Act.put, pA, pB, pC])) |  ((with_reducible refine wpB_load (by first | exact F_int | exact F_u64s) wU wU (by assumption) wU ?_); (try simp only [Act.put, pA, pB, pC])) | ((refine wpQ_oneG ?_ wU (fun w' => ?_) ?_); rotate_left; (go_simp; rfl); (try simp only [Act.put, pA, pB, pC])))
       refine wpQuiet_nil ?_
       intro w4 hb4
       have hS4 := hSr.mono hb4
       go_wp2_with (go_at_call 152; refine (mfirst_any _ _ [_, _] _ (reps_newN cIntS [_, _] 2 rfl (by decide) _ _ (by simp) rfl)).mono ?_; rw [firstE_head (by decide)]; rintro e w' ⟨rfl, rfl⟩)
       go_ret
       exact ⟨by rw [HV.out, HST.out]; rfl, bal hS4.b _⟩
      ·go_wp2_with ((with_reducible refine wpList_idx _ 0 E_ints F_int cInt1 wU wU (hLr) oD oD (fun _ => wU) (fun _ => ?_)); rw [← HX.out])
       refine wp_region_qt 15 kR kR ?_
       simp only [List.take_succ_cons, List.take_zero, List.drop_succ_cons, List.drop_zero]
       repeat (first | ((with_reducible refine wpB_loadS (n := 4) (us := mC m ad cap) A_mach kR wU wU (by assumption) wU wU ?_); (try simp only [Act.put, pA, pB, pC])) | ((refine wpB_call (.int .i64 (4 * m.gears)) wU (fun w' => ?_) (fun w' hw' => HZ w') ?_); (focus (go_simp; done)); (try simp only [Act.put, pA, pB, pC])) | ((refine wpB_call (.bool true) wU (fun w' => ?_) (fun w' hw' => calls_below (HC.out w' (hLk.below hw'))) ?_); (focus (go_simp; done)); (try simp only [Act.put, pA, pB, pC])) | ((with_reducible refine wpB_when wU wU wU ?_); (try simp only [Act.put, pA, pB, pC])) | ((with_reducible refine wpQ_skip wU ?_); (try simp only [Act.put, pA, pB, pC])) |  ((with_reducible refine wpB_load (by first | exact F_int | exact F_u64s) wU wU (by assumption) wU ?_); (try simp only [Act.put, pA, pB, pC])) | ((refine wpQ_oneG ?_ wU (fun w' => ?_) ?_); rotate_left; (go_simp; rfl); (try simp only [Act.put, pA, pB, pC])))
       refine wpQuiet_nil ?_
       intro w4 hb4
       have hS4 := hSr.mono hb4
       go_wp2_with (go_at_call 152; refine (mfirst_any _ _ [_, _] _ (reps_newN cIntS [_, _] 2 rfl (by decide) _ _ (by simp) rfl)).mono ?_; rw [firstE_head (by decide)]; rintro e w' ⟨rfl, rfl⟩)
       go_ret
       exact ⟨by rw [HV.out, HST.out]; rfl, bal hS4.b _⟩
     have d1 : decide (x < 0) = false := decide_eq_false c1
     by_cases c2 : 4 * m.gears ≤ x
     ·have d2 : decide (4 * m.gears ≤ x) = true := decide_eq_true c2
      rw [if_pos (.inr c2)] at hst
      have HST := hid hst
      clear hst
      cases hc : (l.take k).contains x
      all_goals
       rw [hc] at CC
       have HC := hid CC
       clear CC hc
      ·go_wp2_with ((with_reducible refine wpList_idx _ 0 E_ints F_int cInt1 wU wU (hLr) oD oD (fun _ => wU) (fun _ => ?_)); rw [← HX.out])
       refine wp_region_qt 15 kR kR ?_
       simp only [List.take_succ_cons, List.take_zero, List.drop_succ_cons, List.drop_zero]
       repeat (first | ((with_reducible refine wpB_loadS (n := 4) (us := mC m ad cap) A_mach kR wU wU (by assumption) wU wU ?_); (try simp only [Act.put, pA, pB, pC])) | ((refine wpB_call (.int .i64 (4 * m.gears)) wU (fun w' => ?_) (fun w' hw' => HZ w') ?_); (focus (go_simp; done)); (try simp only [Act.put, pA, pB, pC])) | ((refine wpB_call (.bool false) wU (fun w' => ?_) (fun w' hw' => calls_below (HC.out w' (hLk.below hw'))) ?_); (focus (go_simp; done)); (try simp only [Act.put, pA, pB, pC])) | ((with_reducible refine wpB_when wU wU wU ?_); (try simp only [Act.put, pA, pB, pC])) | ((with_reducible refine wpQ_skip wU ?_); (try simp only [Act.put, pA, pB, pC])) |  ((with_reducible refine wpB_load (by first | exact F_int | exact F_u64s) wU wU (by assumption) wU ?_); (try simp only [Act.put, pA, pB, pC])) | ((refine wpQ_oneG ?_ wU (fun w' => ?_) ?_); rotate_left; (go_simp; rfl); (try simp only [Act.put, pA, pB, pC])))
       refine wpQuiet_nil ?_
       intro w4 hb4
       have hS4 := hSr.mono hb4
       go_wp2_with (go_at_call 152; refine (mfirst_any _ _ [_, _] _ (reps_newN cIntS [_, _] 2 rfl (by decide) _ _ (by simp) rfl)).mono ?_; rw [firstE_head (by decide)]; rintro e w' ⟨rfl, rfl⟩)
       go_ret
       exact ⟨by rw [HV.out, HST.out]; rfl, bal hS4.b _⟩
      ·go_wp2_with ((with_reducible refine wpList_idx _ 0 E_ints F_int cInt1 wU wU (hLr) oD oD (fun _ => wU) (fun _ => ?_)); rw [← HX.out])
       refine wp_region_qt 15 kR kR ?_
       simp only [List.take_succ_cons, List.take_zero, List.drop_succ_cons, List.drop_zero]
       repeat (first | ((with_reducible refine wpB_loadS (n := 4) (us := mC m ad cap) A_mach kR wU wU (by assumption) wU wU ?_); (try simp only [Act.put, pA, pB, pC])) | ((refine wpB_call (.int .i64 (4 * m.gears)) wU (fun w' => ?_) (fun w' hw' => HZ w') ?_); (focus (go_simp; done)); (try simp only [Act.put, pA, pB, pC])) | ((refine wpB_call (.bool true) wU (fun w' => ?_) (fun w' hw' => calls_below (HC.out w' (hLk.below hw'))) ?_); (focus (go_simp; done)); (try simp only [Act.put, pA, pB, pC])) | ((with_reducible refine wpB_when wU wU wU ?_); (try simp only [Act.put, pA, pB, pC])) | ((with_reducible refine wpQ_skip wU ?_); (try simp only [Act.put, pA, pB, pC])) |  ((with_reducible refine wpB_load (by first | exact F_int | exact F_u64s) wU wU (by assumption) wU ?_); (try simp only [Act.put, pA, pB, pC])) | ((refine wpQ_oneG ?_ wU (fun w' => ?_) ?_); rotate_left; (go_simp; rfl); (try simp only [Act.put, pA, pB, pC])))
       refine wpQuiet_nil ?_
       intro w4 hb4
       have hS4 := hSr.mono hb4
       go_wp2_with (go_at_call 152; refine (mfirst_any _ _ [_, _] _ (reps_newN cIntS [_, _] 2 rfl (by decide) _ _ (by simp) rfl)).mono ?_; rw [firstE_head (by decide)]; rintro e w' ⟨rfl, rfl⟩)
       go_ret
       exact ⟨by rw [HV.out, HST.out]; rfl, bal hS4.b _⟩
     have d2 : decide (4 * m.gears ≤ x) = false := decide_eq_false c2
     rw [if_neg (by omega)] at hst
     by_cases c3 : x ∈ l.take k
     ·have hc : (l.take k).contains x = true := by simpa using c3
      rw [if_pos c3] at hst
      rw [hc] at CC
      have HC := hid CC; have HST := hid hst
      clear CC hc c3 hst
      go_wp2_with ((with_reducible refine wpList_idx _ 0 E_ints F_int cInt1 wU wU (hLr) oD oD (fun _ => wU) (fun _ => ?_)); rw [← HX.out])
      refine wp_region_qt 15 kR kR ?_
      simp only [List.take_succ_cons, List.take_zero, List.drop_succ_cons, List.drop_zero]
      repeat (first | ((with_reducible refine wpB_loadS (n := 4) (us := mC m ad cap) A_mach kR wU wU (by assumption) wU wU ?_); (try simp only [Act.put, pA, pB, pC])) | ((refine wpB_call (.int .i64 (4 * m.gears)) wU (fun w' => ?_) (fun w' hw' => HZ w') ?_); (focus (go_simp; done)); (try simp only [Act.put, pA, pB, pC])) | ((refine wpB_call (.bool true) wU (fun w' => ?_) (fun w' hw' => calls_below (HC.out w' (hLk.below hw'))) ?_); (focus (go_simp; done)); (try simp only [Act.put, pA, pB, pC])) | ((with_reducible refine wpB_when wU wU wU ?_); (try simp only [Act.put, pA, pB, pC])) | ((with_reducible refine wpQ_skip wU ?_); (try simp only [Act.put, pA, pB, pC])) |  ((with_reducible refine wpB_load (by first | exact F_int | exact F_u64s) wU wU (by assumption) wU ?_); (try simp only [Act.put, pA, pB, pC])) | ((refine wpQ_oneG ?_ wU (fun w' => ?_) ?_); rotate_left; (go_simp; rfl); (try simp only [Act.put, pA, pB, pC])))
      refine wpQuiet_nil ?_
      intro w4 hb4
      have hS4 := hSr.mono hb4
      go_wp2_with (go_at_call 152; refine (mfirst_any _ _ [_, _] _ (reps_newN cIntS [_, _] 2 rfl (by decide) _ _ (by simp) rfl)).mono ?_; rw [firstE_z, firstE_head (by decide)]; rintro e w' ⟨rfl, rfl⟩)
      go_ret
      exact ⟨by rw [HV.out, HST.out]; rfl, bal hS4.b _⟩
     ·have hc : (l.take k).contains x = false := by simpa using c3
      rw [if_neg c3] at hst
      rw [hc] at CC
      have HC := hid CC; have HST := hid hst
      clear CC hc c3 hst
      go_wp2_with ((with_reducible refine wpList_idx _ 0 E_ints F_int cInt1 wU wU (hLr) oD oD (fun _ => wU) (fun _ => ?_)); rw [← HX.out])
      refine wp_region_qt 15 kR kR ?_
      simp only [List.take_succ_cons, List.take_zero, List.drop_succ_cons, List.drop_zero]
      repeat (first | ((with_reducible refine wpB_loadS (n := 4) (us := mC m ad cap) A_mach kR wU wU (by assumption) wU wU ?_); (try simp only [Act.put, pA, pB, pC])) | ((refine wpB_call (.int .i64 (4 * m.gears)) wU (fun w' => ?_) (fun w' hw' => HZ w') ?_); (focus (go_simp; done)); (try simp only [Act.put, pA, pB, pC])) | ((refine wpB_call (.bool false) wU (fun w' => ?_) (fun w' hw' => calls_below (HC.out w' (hLk.below hw'))) ?_); (focus (go_simp; done)); (try simp only [Act.put, pA, pB, pC])) | ((with_reducible refine wpB_when wU wU wU ?_); (try simp only [Act.put, pA, pB, pC])) | ((with_reducible refine wpQ_skip wU ?_); (try simp only [Act.put, pA, pB, pC])) |  ((with_reducible refine wpB_load (by first | exact F_int | exact F_u64s) wU wU (by assumption) wU ?_); (try simp only [Act.put, pA, pB, pC])) | ((refine wpQ_oneG ?_ wU (fun w' => ?_) ?_); rotate_left; (go_simp; rfl); (try simp only [Act.put, pA, pB, pC])))
      refine wpQuiet_nil ?_
      intro w4 hb4
      have hS4 := hSr.mono hb4
      go_wp2_with (go_at_call 152; refine (mfirst_any _ _ [_, _] _ (reps_newN cIntS [_, _] 2 rfl (by decide) _ _ (by simp) rfl)).mono ?_; rw [firstE_z, firstE_z, firstE_nil]; rintro e w' ⟨rfl, rfl⟩)
      exact ⟨⟨k + 1, by omega, by go_num, HST.out.symm, hS4.al _⟩, by simp [intOf]; omega⟩
    ·have hkk : k = l.length := by omega
     subst hkk
     have e : loadGo m (l.take l.length) (l.drop l.length) = 0 := by rw [List.drop_length]; rfl
     rw [e] at hgo
     have HG := hid hgo
     clear hgo e
     go_wp2_with fail
     go_ret
     exact ⟨by rw [HV.out, ← HG.out]; rfl, hSr.b⟩
 ·have hv : loadE m l = macE m := by unfold loadE; rw [if_pos he]
  unfold ChkM at HK
  obtain ⟨E, hE⟩ : ∃ E, E = macE m := ⟨_, rfl⟩
  rw [← hE] at HK hv he
  have HV := hid hv
  have hne : (E != 0) = true := by simpa using he
  clear hv hE hz
  cases hb : decide (z < (l.length : Int))
  all_goals
   go_enter Tryz.func153, Tryz.ntmps153
   go_wp2_with fail
   refine wp_region_qt 8 kR kR ?_
   simp only [List.take_succ_cons, List.take_zero, List.drop_succ_cons, List.drop_zero]
   repeat (first | ((with_reducible refine wpB_loadS (n := 4) (us := mC m ad cap) A_mach kR wU wU (by assumption) wU wU ?_); (try simp only [Act.put, pA, pB, pC])) | ((refine wpB_call (.int .i64 E) wU (fun w' => ?_) (fun w' hw' => HK w' (R1.below hw')) ?_); (focus (go_simp; done)); (try simp only [Act.put, pA, pB, pC])) | ((refine wpB_call (.int .i64 z) wU (fun w' => ?_) (fun w' hw' => HZ w') ?_); (focus (go_simp; done)); (try simp only [Act.put, pA, pB, pC])) | ((with_reducible refine wpB_when wU wU wU ?_); (try simp only [Act.put, pA, pB, pC])) |  ((with_reducible refine wpB_load (by first | exact F_int | exact F_u64s) wU wU (by assumption) wU ?_); (try simp only [Act.put, pA, pB, pC])) | ((refine wpQ_oneG ?_ wU (fun w' => ?_) ?_); rotate_left; (go_simp; rfl); (try simp only [Act.put, pA, pB, pC])))
   refine wpQuiet_nil ?_
   intro w1 hb1
   have hS1 := hS.mono hb1
   go_wp2_with (go_at_call 152; refine (mfirst_any _ _ [_, _] _ (reps_newN cIntS [_, _] 2 rfl (by decide) _ _ (by simp) rfl)).mono ?_; rw [firstE_head he]; rintro e w' ⟨rfl, rfl⟩)
   go_ret
   exact ⟨by rw [HV.out]; rfl, bal hS1.b _⟩
end Go.Proofs.YtngpopalpofhgaaGreatDoor

namespace Go.Proofs.YtngpopalpofhgaaGreatDoor
open Go.RowKit
set_option maxHeartbeats 8000000
set_option maxRecDepth 100000

theorem loadGo_zero (m : MacV) : ∀ (l pre : List Int), pre.Nodup → loadGo m pre l = 0 → (∀ x ∈ l, 0 ≤ x ∧ x < 4 * m.gears) ∧ (pre ++ l).Nodup
 | [], pre, hp, _ => ⟨fun x hx => absurd hx (by simp), by simpa using hp⟩
 | s :: r, pre, hp, h => by
   rw [loadGo] at h
   split at h
   · omega
   · rename_i h1
     split at h
     · omega
     · rename_i h2
       have hp2 : (pre ++ [s]).Nodup := by
         rw [List.nodup_append]
         refine ⟨hp, by simp, ?_⟩
         intro a ha b hb e
         simp at hb
         subst hb; subst e
         exact h2 ha
       obtain ⟨k1, k2⟩ := loadGo_zero m r (pre ++ [s]) hp2 h
       refine ⟨fun x hx => ?_, by simpa using k2⟩
       rcases List.mem_cons.1 hx with rfl | hx
       · omega
       · exact k1 x hx
structure LoadOk (m : MacV) (l : List Int) : Prop where
 mac : macE m = 0
 ok : MacOk m
 few : l.length ≤ 4 * m.gears
 rng : ∀ x ∈ l, 0 ≤ x ∧ x < 4 * m.gears
 nodup : l.Nodup
theorem loadE_zero {m : MacV} {l : List Int} (h : loadE m l = 0) : LoadOk m l := by
 unfold loadE at h
 split at h
 ·rename_i h1; exact absurd h h1
 ·rename_i h1
  split at h
  ·omega
  ·have h3 : macE m = 0 := by simpa using h1
   obtain ⟨a, b⟩ := loadGo_zero m l [] List.nodup_nil h
   exact ⟨h3, (macE_zero h3).1, by omega, a, by simpa using b⟩
end Go.Proofs.YtngpopalpofhgaaGreatDoor

namespace Go.Proofs.YtngpopalpofhgaaGreatDoor
set_option maxRecDepth 100000

theorem befo_irrefl (a : Nat × Int) : befo a a = false := by simp [befo]
theorem befo_false {a b : Nat × Int} : befo a b = false ↔ b.1 < a.1 ∨ (b.1 = a.1 ∧ b.2 ≤ a.2) := by
 unfold befo
 simp only [Bool.or_eq_false_iff, Bool.and_eq_false_imp, decide_eq_false_iff_not, decide_eq_true_eq]
 constructor
 ·rintro ⟨h1, h2⟩
  by_cases e : a.1 = b.1
  ·right; have := h2 e; omega
  ·left; omega
 ·rintro (h | ⟨h1, h2⟩)
  ·exact ⟨by omega, fun e => by omega⟩
  ·exact ⟨by omega, fun _ => by omega⟩
theorem foldF_spec (m : MacV) : ∀ (ps : List (Int × Int)) (acc : Option (Nat × Int)),
  (ps.foldl (fun b p => bestS b (meetM m p.1 p.2)) acc = none → acc = none ∧ ∀ p ∈ ps, meetM m p.1 p.2 = none) ∧
  (∀ b, ps.foldl (fun b p => bestS b (meetM m p.1 p.2)) acc = some b → (∀ a, acc = some a → befo a b = false) ∧ (∀ p ∈ ps, ∀ v, meetM m p.1 p.2 = some v → befo v b = false) ∧ (acc = some b ∨ ∃ p ∈ ps, meetM m p.1 p.2 = some b))
 | [], acc => ⟨fun h => ⟨h, fun p hp => absurd hp (by simp)⟩, fun b h => ⟨fun a ha => by rw [List.foldl_nil] at h; rw [ha] at h; cases h; exact befo_irrefl _, fun p hp => absurd hp (by simp), .inl h⟩⟩
 | q :: ps, acc => by
   rw [List.foldl_cons]
   obtain ⟨h1, h2⟩ := foldF_spec m ps (bestS acc (meetM m q.1 q.2))
   constructor
   · intro h
     obtain ⟨k1, k2⟩ := h1 h
     cases hm : meetM m q.1 q.2 with
     | none =>
       rw [hm] at k1
       exact ⟨k1, fun p hp => by rcases List.mem_cons.1 hp with rfl | hp; exact hm; exact k2 p hp⟩
     | some v =>
       rw [hm] at k1
       cases acc with
       | none => cases k1
       | some w => unfold bestS at k1; dsimp only at k1; split at k1 <;> cases k1
   · intro b h
     obtain ⟨k1, k2, k3⟩ := h2 b h
     cases hm : meetM m q.1 q.2 with
     | none =>
       rw [hm] at k1 k3
       refine ⟨k1, fun p hp v hv => ?_, ?_⟩
       · rcases List.mem_cons.1 hp with rfl | hp
         · rw [hm] at hv; cases hv
         · exact k2 p hp v hv
       · rcases k3 with k3 | ⟨p, hp, e⟩
         · exact .inl k3
         · exact .inr ⟨p, List.mem_cons_of_mem _ hp, e⟩
     | some v =>
       rw [hm] at k1 k3
       have low : ∀ c, bestS acc (some v) = some c → (∀ a, acc = some a → befo a c = false) ∧ befo v c = false ∧ (acc = some c ∨ v = c) := by
         intro c hc
         cases acc with
         | none => cases hc; exact ⟨fun a ha => (by cases ha), befo_irrefl _, .inr rfl⟩
         | some w =>
           unfold bestS at hc
           dsimp only at hc
           split at hc
           · rename_i hb
             cases hc
             refine ⟨fun a ha => ?_, befo_irrefl _, .inr rfl⟩
             cases ha
             unfold befo at hb
             simp only [Bool.or_eq_true, Bool.and_eq_true, decide_eq_true_eq] at hb
             rw [befo_false]; omega
           · rename_i hb
             cases hc
             exact ⟨fun a ha => (by cases ha; exact befo_irrefl _), by simpa using hb, .inl rfl⟩
       obtain ⟨c, hc⟩ : ∃ c, bestS acc (some v) = some c := by
         cases acc with
         | none => exact ⟨v, rfl⟩
         | some w => unfold bestS; dsimp only; split <;> exact ⟨_, rfl⟩
       obtain ⟨l1, l2, l3⟩ := low c hc
       have kc := k1 c hc
       have tr : ∀ a, befo a c = false → befo a b = false := by
         intro a ha
         rw [befo_false] at ha kc ⊢
         omega
       refine ⟨fun a ha => tr a (l1 a ha), fun p hp v' hv' => ?_, ?_⟩
       · rcases List.mem_cons.1 hp with rfl | hp
         · rw [hm] at hv'; cases hv'; exact tr _ l2
         · exact k2 p hp v' hv'
       · rcases k3 with k3 | ⟨p, hp, e⟩
         · rw [hc] at k3
           cases k3
           rcases l3 with l3 | l3
           · exact .inl l3
           · exact .inr ⟨q, List.mem_cons_self, by rw [hm, l3]⟩
         · exact .inr ⟨p, List.mem_cons_of_mem _ hp, e⟩
theorem pairsTo_mem {l : List Int} {p : Int × Int} {n : Nat} (hn : n ≤ l.length) : p ∈ pairsTo l n ↔ ∃ i j : Nat, j < i ∧ i < n ∧ p = (atD 0 l i, atD 0 l j) := by
 unfold pairsTo
 simp only [List.mem_flatMap, List.mem_range, List.mem_map]
 constructor
 ·rintro ⟨i, hi, b, hb, rfl⟩
  obtain ⟨j, hj, e⟩ := List.mem_iff_getElem.1 hb
  rw [List.length_take] at hj
  refine ⟨i, j, by omega, hi, ?_⟩
  rw [List.getElem_take] at e
  have hjl : j < l.length := by omega
  rw [← e]
  simp [atD, hjl]
 ·rintro ⟨i, j, hji, hi, rfl⟩
  have hjl : j < l.length := by omega
  refine ⟨i, hi, atD 0 l j, ?_, rfl⟩
  refine List.mem_iff_getElem.2 ⟨j, by simp; omega, ?_⟩
  simp [atD, hjl]
theorem hitM_symm (m : MacV) (x y : Int) : hitM m x y = hitM m y x := by
 unfold hitM
 by_cases e : placeM m x = placeM m y
 ·rw [e]
 ·rw [decide_eq_false e, decide_eq_false (show ¬ placeM m y = placeM m x from fun h => e h.symm), Bool.and_false, Bool.and_false]
/-- no meeting up to some steps. -/
theorem no_meets {m : MacV} {l : List Int} {n : Int} (h : meetsM m l n = false) {k : Nat} (hk : (k : Int) ≤ n) : NoHit m (l.map fun s => itM m s k) := by
 have key : ∀ i j : Nat, j < i → i < l.length → hitM m (itM m (atD 0 l i) k) (itM m (atD 0 l j) k) = false := by
  intro i j hji hi
  have hsp := meetM_spec m (atD 0 l i) (atD 0 l j)
  have hp := (pairsTo_mem (l := l) (n := l.length) (Nat.le_refl _)).2 ⟨i, j, hji, hi, rfl⟩
  obtain ⟨s1, s2⟩ := foldF_spec m (pairsTo l l.length) none
  cases hm : meetM m (atD 0 l i) (atD 0 l j) with
  | none => rw [hm] at hsp; exact hsp k
  | some v =>
   rw [hm] at hsp
   refine hsp.2.2 k ?_
   unfold meetsM at h
   cases hf : firstM m l with
   | none =>
    have := (s1 hf).2 _ hp
    rw [hm] at this; cases this
   | some b =>
    rw [hf] at h
    have hb := (s2 b hf).2.1 _ hp v hm
    rw [befo_false] at hb
    simp only [decide_eq_false_iff_not] at h
    omega
 intro x hx y hy hxy
 obtain ⟨a, ha, rfl⟩ := List.mem_map.1 hx
 obtain ⟨b, hb, rfl⟩ := List.mem_map.1 hy
 obtain ⟨i, hi, rfl⟩ := List.mem_iff_getElem.1 ha
 obtain ⟨j, hj, rfl⟩ := List.mem_iff_getElem.1 hb
 have ei : atD 0 l (i : Int) = l[i] := by simp [atD, hi]
 have ej : atD 0 l (j : Int) = l[j] := by simp [atD, hj]
 rcases Nat.lt_trichotomy j i with hl | hl | hl
 ·rw [← ei, ← ej]; exact key i j hl hi
 ·subst hl; exact absurd rfl hxy
 ·rw [← ei, ← ej, hitM_symm]; exact key j i hl hj
/-- the carriers after some steps. -/
noncomputable def atL (m : MacV) (l : List Int) (k : Nat) : List Int := l.map fun s => itM m s k
theorem atL_succ {m : MacV} {l : List Int} (hl : ∀ x ∈ l, 0 ≤ x ∧ x < 4 * m.gears) (k : Nat) : stepL m (atL m l k) = atL m l (k + 1) := by
 unfold atL stepL
 rw [List.map_map]
 exact List.map_congr_left (fun x hx => (itM_succ (hl x hx).1 (hl x hx).2 k).symm)
theorem atL_rng {m : MacV} {l : List Int} (hl : ∀ x ∈ l, 0 ≤ x ∧ x < 4 * m.gears) (k : Nat) : ∀ x ∈ atL m l k, 0 ≤ x ∧ x < 4 * m.gears := by
 intro x hx
 obtain ⟨y, hy, rfl⟩ := List.mem_map.1 hx
 exact itM_rng (hl y hy).1 (hl y hy).2 k
/-- row and letters after some steps. -/
noncomputable def wvM (m : MacV) (l : List Int) : Nat → List Int × List Int
 | 0 => (orderM m l, [])
 | k + 1 => weaveS m (wvM m l k) (atL m l k)
theorem wvM_row {m : MacV} {l : List Int} (hr : m.ring = false) (hl : ∀ x ∈ l, 0 ≤ x ∧ x < 4 * m.gears) {n : Int} (h : meetsM m l n = false) : ∀ k : Nat, (k : Int) ≤ n → (wvM m l k).1 = orderM m (atL m l k)
 | 0, _ => by
   show orderM m l = _
   have : atL m l 0 = l := by
     unfold atL
     conv => rhs; rw [← List.map_id l]
     exact List.map_congr_left (fun x _ => rfl)
   rw [this]
 | k + 1, hk => by
   have ih := wvM_row hr hl h k (by omega)
   obtain ⟨out', h1, _⟩ := weaveS_row m (atL m l k) (wvM m l k).2
   rw [wvM]
   rw [show wvM m l k = (orderM m (atL m l k), (wvM m l k).2) from Prod.ext ih rfl] at *
   rw [h1]
   have hno := no_meets h hk
   rw [show l.map (fun s => itM m s (k + 1)) = atL m l (k + 1) from rfl, ← atL_succ hl k] at hno
   show afterM m (atL m l k) = _
   rw [order_step hr (atL_rng hl k) hno, atL_succ hl k]
theorem wvM_mono (m : MacV) (l : List Int) : ∀ {j k : Nat}, j ≤ k → (wvM m l j).2.length ≤ (wvM m l k).2.length := by
 intro j k hjk
 induction hjk with
 | refl => exact Nat.le_refl _
 | step _ ih => rw [wvM, weaveS_len]; omega
theorem orderM_len (m : MacV) (l : List Int) : (orderM m l).length ≤ 4 * m.gears.toNat := by
 rw [orderM_seq]
 refine Nat.le_trans (List.length_filterMap_le _ _) ?_
 have key : ∀ gs : List Int, (gs.flatMap (slotsG m)).length = 4 * gs.length := by
  intro gs
  induction gs with
  | nil => rfl
  | cons g gs ih => rw [List.flatMap_cons, List.length_append, ih, slotsG_eq, List.length_cons]; simp only [List.length_cons, List.length_nil]; omega
 rw [key]
 simp [gearsL]
/-- the error ahead of a word. -/
noncomputable def weaveE (m : MacV) (l : List Int) (n : Int) : Int := if loadE m l ≠ 0 then loadE m l else if m.ring = true then 13 else if 12 < l.length then 5 else if n < 0 ∨ 1000 < n then 3 else if meetsM m l n = true then 16 else 0
theorem weaveE_zero {m : MacV} {l : List Int} {n : Int} (h : weaveE m l n = 0) : LoadOk m l ∧ m.ring = false ∧ l.length ≤ 12 ∧ 0 ≤ n ∧ n ≤ 1000 ∧ meetsM m l n = false := by
 unfold weaveE at h
 split at h
 ·rename_i h1; exact absurd h h1
 ·rename_i h1
  split at h
  ·omega
  ·rename_i h2
   split at h
   ·omega
   ·rename_i h3
    split at h
    ·omega
    ·rename_i h4
     split at h
     ·omega
     ·rename_i h5
      exact ⟨loadE_zero (by simpa using h1), by simpa using h2, by omega, by omega, by omega, by simpa using h5⟩
end Go.Proofs.YtngpopalpofhgaaGreatDoor

namespace Go.Proofs.YtngpopalpofhgaaGreatDoor
open Go.RowKit Go.Shelf
attribute [local go_sem] Oper.semAt_some
set_option maxHeartbeats 8000000
set_option maxRecDepth 100000

section
variable {F : Fence} {nn : Nat} {P : Program} {ops : Array Oper} {Q : Exit → Act → World → Prop} {a : Act} {w : World} {rest : List Oper} {ty : TypeId} {p : String} {af : Array Edge} {g : Option (Nat × Bool)}
end
abbrev gC (m : MacV) (g : Int) : Array Value := #[.int .i64 (slotG m g 0), .int .i64 (slotG m g 1), .int .i64 (slotG m g 2), .int .i64 (slotG m g 3)]
def gearV (m : MacV) (g : Int) : Array Value := #[.int .i64 g, .agg (gC m g)]
def gearsTo (k : Nat) : List Int := (List.range k).map fun (g : Nat) => (g : Int)
theorem gearsTo_succ (k : Nat) : gearsTo (k + 1) = gearsTo k ++ [(k : Int)] := by simp [gearsTo, List.range_succ]
theorem gearsTo_len (k : Nat) : (gearsTo k).length = k := by simp [gearsTo]
/-- the slots of a gear while they are set. -/
def mixC (f : Bool) (g : Int) (j : Nat) : Array Value :=
 #[.int .i64 (if 0 < j then 4 * g else 0), .int .i64 ((if f then 1 else 3) + (if 1 < j then 4 * g else 0)), .int .i64 ((if f then 3 else 1) + (if 2 < j then 4 * g else 0)), .int .i64 (2 + (if 3 < j then 4 * g else 0))]
theorem mixC_end (m : MacV) (g : Int) : mixC (fwdM m g) g 4 = gC m g := by
 cases hf : fwdM m g <;> simp [mixC, gC, slotG, hf] <;> omega

theorem gears1_in (mm l bm : Nat) (m : MacV) (ad : Option Addr) (cap : Nat) (n : Nat) (hn : m.gears = n) (hn2 : n ≤ 16) (hm : 1 ≤ mm) (J Jx : List (Slot n) → World → Prop)
  (hY : ∀ pre (x : Slot n) W, J pre W → pre.length < n → YieldAt Fence.wide (mm - 1) Tryz.prog l (gearV m x.1) W fun e W' =>
   (e = .returned (.bool true) ∧ J (pre ++ [x]) W' ∧ KeepAt bm W W') ∨ (e = .returned (.bool false) ∧ Jx (pre ++ [x]) W'))
  (hJ : ∀ pre (W W' : World), J pre W → W.grownBy W' none → J pre W')
  (W : World) (hWm : W.heap[bm]? = some (.cells (mC m ad cap) 76)) (h0 : J [] W) :
  CallsIn Fence.wide mm Tryz.prog 208 #[.func (.yield l) #[] #[], .pointer (some ⟨bm, 0, none⟩)] W fun e W' => (∃ v, e = .returned v) ∧
   ((∃ ys : List (Slot n), ys.map (·.1) = gearsTo n ∧ J ys W') ∨ (∃ pre, Jx pre W')) := by
 have c1 : W.cell? ⟨bm, 1, none⟩ = some (.int .i64 m.gears) := by simp [World.cell?, hWm]
 have hge1 : (n : Int) ≤ m.gears := by omega
 have hge2 : m.gears ≤ (n : Int) := by omega
 clear hn
 refine callsIn_of_wp Tryz.func208 rfl trivial ?_ rfl
 simp only [Tryz.ntmps208, List.size_toArray, List.length_cons, List.length_nil, Nat.reduceAdd, Nat.reduceSub, Array.replicate_succ, Array.replicate_zero, List.push_toArray, List.append_toArray, List.nil_append, List.cons_append]
 gi_wp2
 gi_loopw [8] (fun x wr => ∃ (k : Nat) (pre : List (Slot n)), k ≤ n ∧ x = .int .i64 k ∧ pre.map (·.1) = gearsTo k ∧ J pre wr ∧ wr.heap[bm]? = some (.cells (mC m ad cap) 76)) (fun x _ => n - (intOf x).toNat)
 case atStart => exact ⟨0, [], by omega, rfl, rfl, h0, hWm⟩
 case round =>
  obtain ⟨k, pre, hk, rfl, hpre, hJs, hwm⟩ := hrel
  have hlen : pre.length = k := by have := congrArg List.length hpre; simpa [gearsTo_len] using this
  obtain ⟨V, rfl⟩ : ∃ V, V = wr := ⟨wr, rfl⟩
  by_cases hlt : k < n
  ·have HHP := hid hpre; have HLN := hid hlen
   clear hpre hlen
   have CF := fun w => forwards_any m ad cap (k : Int) w (by omega) (by omega)
   have hme := mixC_end m k
   cases hf : fwdM m k
   ·rw [hf] at CF hme
    have HF := hid CF; have HME := hid hme
    clear CF hf hme
    have hbl : bm < V.heap.size := (Array.getElem?_eq_some_iff.1 hwm).1
    have kk : ∀ j u, (mC m ad cap)[j]? = some u → (V.alloc (.cells #[.int .i64 0, .int .i64 3, .int .i64 1, .int .i64 2] 199)).cell? ⟨bm, j, none⟩ = some u := by
     intro j u hu
     have := Below.heap_alloc V (.cells #[.int .i64 0, .int .i64 3, .int .i64 1, .int .i64 2] 199) bm hbl
     simp [World.cell?, this, hwm, hu]
    have k0 := kk 0 _ rfl
    have k1 := kk 1 _ rfl
    have k2 := kk 2 _ rfl
    have k3 := kk 3 _ rfl
    have hS0 := (SL.nil V).box (.cells #[.int .i64 0, .int .i64 3, .int .i64 1, .int .i64 2] 199)
    gi_wp2
    refine ⟨trivial, (callsIn_wide.2 (HF.out _)).mono ?_⟩
    rintro e w2 ⟨rfl, b2⟩
    have hS2 := hS0.mono b2
    clear k0 k1 k2 k3 kk
    gi_wp2
    clear HF
    gi_loopw [16] (fun i wq => ∃ j : Nat, j ≤ 4 ∧ i = .int .i64 j ∧ SL V.heap.size V wq [pBlk V.heap.size (.cells (mixC false k j) 199)]) (fun i _ => 4 - (intOf i).toNat)
    case atStart => exact ⟨0, by omega, rfl, hS2⟩
    case round =>
     clear hS2 hS0 b2
     obtain ⟨j, hj, rfl, hSq⟩ := hrel
     have hj5 : j = 0 ∨ j = 1 ∨ j = 2 ∨ j = 3 ∨ j = 4 := by omega
     have f0 := hSq.frozen 0 rfl 0
     have f1 := hSq.frozen 0 rfl 1
     have f2 := hSq.frozen 0 rfl 2
     have f3 := hSq.frozen 0 rfl 3
     rcases hj5 with rfl | rfl | rfl | rfl | rfl
     ·have q := hSq.cell 0 rfl 0 (u := .int .i64 0) (by simp [mixC])
      have hw : IntKind.i64.wrap (0 + 4 * (k : Int)) = 0 + 4 * (k : Int) := IntWalk.i64_in _ (by omega)
      gi_wp2
      go_roundw
      case rel => exact ⟨1, by omega, rfl, hSq.set 0 rfl 0 _⟩
      case measure => simp [intOf]
     ·have q := hSq.cell 0 rfl 1 (u := .int .i64 3) (by simp [mixC])
      have hw : IntKind.i64.wrap (3 + 4 * (k : Int)) = 3 + 4 * (k : Int) := IntWalk.i64_in _ (by omega)
      gi_wp2
      go_roundw
      case rel => exact ⟨2, by omega, rfl, hSq.set 0 rfl 1 _⟩
      case measure => simp [intOf]
     ·have q := hSq.cell 0 rfl 2 (u := .int .i64 1) (by simp [mixC])
      have hw : IntKind.i64.wrap (1 + 4 * (k : Int)) = 1 + 4 * (k : Int) := IntWalk.i64_in _ (by omega)
      gi_wp2
      go_roundw
      case rel => exact ⟨3, by omega, rfl, hSq.set 0 rfl 2 _⟩
      case measure => simp [intOf]
     ·have q := hSq.cell 0 rfl 3 (u := .int .i64 2) (by simp [mixC])
      have hw : IntKind.i64.wrap (2 + 4 * (k : Int)) = 2 + 4 * (k : Int) := IntWalk.i64_in _ (by omega)
      gi_wp2
      go_roundw
      case rel => exact ⟨4, by omega, rfl, hSq.set 0 rfl 3 _⟩
      case measure => simp [intOf]
     ·rw [HME.out] at hSq
      have q0 := hSq.cell 0 rfl 0 rfl
      have q1 := hSq.cell 0 rfl 1 rfl
      have q2 := hSq.cell 0 rfl 2 rfl
      have q3 := hSq.cell 0 rfl 3 rfl
      have hwm2 := (hSq.b.block bm hbl).trans hwm
      obtain ⟨fn, tmps, assign, body, hy, hR⟩ := hY pre ⟨(k : Int), by omega, by omega⟩ wr (hJ _ _ _ hJs (grown_of_below hSq.b)) (by have := HLN.out; omega)
      unfold gearV at hy
      dsimp only at hy
      clear hY f0 f1 f2 f3
      gi_wp2
      refine hR.mono ?_
      rintro e W3 (⟨rfl, hJ3, hk3⟩ | ⟨rfl, hJx3⟩)
      ·gi_wp2
       go_roundw
       case rel => exact ⟨k + 1, _, by omega, by go_num, by rw [List.map_append, HHP.out, gearsTo_succ]; rfl, hJ3, Eq.trans hk3 hwm2⟩
       case measure => simp [intOf]; omega
      ·gi_wp2
       refine bodyPost_ret (results_none rfl _ _ _) rfl ?_
       exact ⟨⟨_, rfl⟩, .inr ⟨_, hJx3⟩⟩
   ·rw [hf] at CF hme
    have HF := hid CF; have HME := hid hme
    clear CF hf hme
    have hbl : bm < V.heap.size := (Array.getElem?_eq_some_iff.1 hwm).1
    have kk : ∀ j u, (mC m ad cap)[j]? = some u → (V.alloc (.cells #[.int .i64 0, .int .i64 3, .int .i64 1, .int .i64 2] 199)).cell? ⟨bm, j, none⟩ = some u := by
     intro j u hu
     have := Below.heap_alloc V (.cells #[.int .i64 0, .int .i64 3, .int .i64 1, .int .i64 2] 199) bm hbl
     simp [World.cell?, this, hwm, hu]
    have k0 := kk 0 _ rfl
    have k1 := kk 1 _ rfl
    have k2 := kk 2 _ rfl
    have k3 := kk 3 _ rfl
    have hS0 := (SL.nil V).box (.cells #[.int .i64 0, .int .i64 3, .int .i64 1, .int .i64 2] 199)
    gi_wp2
    refine ⟨trivial, (callsIn_wide.2 (HF.out _)).mono ?_⟩
    rintro e w2 ⟨rfl, b2⟩
    have hS2 := hS0.mono b2
    clear k0 k1 k2 k3 kk
    have z0 := hS2.cell 0 rfl 0 rfl
    have z1 := hS2.cell 0 rfl 1 rfl
    have z2 := hS2.cell 0 rfl 2 rfl
    have z3 := hS2.cell 0 rfl 3 rfl
    have f0 := hS2.frozen 0 rfl 0
    have f1 := hS2.frozen 0 rfl 1
    have f2 := hS2.frozen 0 rfl 2
    have f3 := hS2.frozen 0 rfl 3
    have hS3 := (((hS2.set 0 rfl 0 (.int .i64 0)).set 0 rfl 1 (.int .i64 1)).set 0 rfl 2 (.int .i64 3)).set 0 rfl 3 (.int .i64 2)
    clear hS2
    have hS2 := hS3
    clear hS3
    gi_wp2
    clear z0 z1 z2 z3 f0 f1 f2 f3
    gi_loopw [16] (fun i wq => ∃ j : Nat, j ≤ 4 ∧ i = .int .i64 j ∧ SL V.heap.size V wq [pBlk V.heap.size (.cells (mixC true k j) 199)]) (fun i _ => 4 - (intOf i).toNat)
    case atStart => exact ⟨0, by omega, rfl, hS2⟩
    case round =>
     clear hS2 hS0 b2
     obtain ⟨j, hj, rfl, hSq⟩ := hrel
     have hj5 : j = 0 ∨ j = 1 ∨ j = 2 ∨ j = 3 ∨ j = 4 := by omega
     have f0 := hSq.frozen 0 rfl 0
     have f1 := hSq.frozen 0 rfl 1
     have f2 := hSq.frozen 0 rfl 2
     have f3 := hSq.frozen 0 rfl 3
     rcases hj5 with rfl | rfl | rfl | rfl | rfl
     ·have q := hSq.cell 0 rfl 0 (u := .int .i64 0) (by simp [mixC])
      have hw : IntKind.i64.wrap (0 + 4 * (k : Int)) = 0 + 4 * (k : Int) := IntWalk.i64_in _ (by omega)
      gi_wp2
      go_roundw
      case rel => exact ⟨1, by omega, rfl, hSq.set 0 rfl 0 _⟩
      case measure => simp [intOf]
     ·have q := hSq.cell 0 rfl 1 (u := .int .i64 1) (by simp [mixC])
      have hw : IntKind.i64.wrap (1 + 4 * (k : Int)) = 1 + 4 * (k : Int) := IntWalk.i64_in _ (by omega)
      gi_wp2
      go_roundw
      case rel => exact ⟨2, by omega, rfl, hSq.set 0 rfl 1 _⟩
      case measure => simp [intOf]
     ·have q := hSq.cell 0 rfl 2 (u := .int .i64 3) (by simp [mixC])
      have hw : IntKind.i64.wrap (3 + 4 * (k : Int)) = 3 + 4 * (k : Int) := IntWalk.i64_in _ (by omega)
      gi_wp2
      go_roundw
      case rel => exact ⟨3, by omega, rfl, hSq.set 0 rfl 2 _⟩
      case measure => simp [intOf]
     ·have q := hSq.cell 0 rfl 3 (u := .int .i64 2) (by simp [mixC])
      have hw : IntKind.i64.wrap (2 + 4 * (k : Int)) = 2 + 4 * (k : Int) := IntWalk.i64_in _ (by omega)
      gi_wp2
      go_roundw
      case rel => exact ⟨4, by omega, rfl, hSq.set 0 rfl 3 _⟩
      case measure => simp [intOf]
     ·rw [HME.out] at hSq
      have q0 := hSq.cell 0 rfl 0 rfl
      have q1 := hSq.cell 0 rfl 1 rfl
      have q2 := hSq.cell 0 rfl 2 rfl
      have q3 := hSq.cell 0 rfl 3 rfl
      have hwm2 := (hSq.b.block bm hbl).trans hwm
      obtain ⟨fn, tmps, assign, body, hy, hR⟩ := hY pre ⟨(k : Int), by omega, by omega⟩ wr (hJ _ _ _ hJs (grown_of_below hSq.b)) (by have := HLN.out; omega)
      unfold gearV at hy
      dsimp only at hy
      clear hY f0 f1 f2 f3
      gi_wp2
      refine hR.mono ?_
      rintro e W3 (⟨rfl, hJ3, hk3⟩ | ⟨rfl, hJx3⟩)
      ·gi_wp2
       go_roundw
       case rel => exact ⟨k + 1, _, by omega, by go_num, by rw [List.map_append, HHP.out, gearsTo_succ]; rfl, hJ3, Eq.trans hk3 hwm2⟩
       case measure => simp [intOf]; omega
      ·gi_wp2
       refine bodyPost_ret (results_none rfl _ _ _) rfl ?_
       exact ⟨⟨_, rfl⟩, .inr ⟨_, hJx3⟩⟩
  ·have hkn : k = n := by omega
   subst hkn
   gi_wp2
   go_end0
   exact ⟨⟨_, rfl⟩, .inl ⟨pre, hpre, hJs⟩⟩
/-- gears' value hands out the gears from left to right. -/
theorem gears_stops (mm bm : Nat) (m : MacV) (ad : Option Addr) (cap : Nat) (n : Nat) (hn : m.gears = n) (hn2 : n ≤ 16) (hm : 1 ≤ mm) (w : World) (hbm : bm < w.heap.size) (hWm : w.heap[bm]? = some (.cells (mC m ad cap) 76)) :
  SeqStopsK Fence.wide mm Tryz.prog 208 #[.pointer (some ⟨bm, 0, none⟩)] (fun x : Slot n => gearV m x.1) (KeepAt bm) (fun ys => ys.map (·.1) = gearsTo n) (fun _ => True) n w := fun l J Jx W hW hJ _ hY h0 => by
 refine (gears1_in mm l bm m ad cap n hn hn2 hm J Jx hY (fun pre A B hA hg => hJ _ _ _ none hA hg (fun r e => by cases e)) W ((hW.block _ hbm).trans hWm) h0).mono ?_
 rintro e W' ⟨he, ⟨ys, hys, hj⟩ | ⟨pre, hj⟩⟩
 ·exact ⟨he, .inl ⟨ys, hys, hj⟩⟩
 ·exact ⟨he, .inr ⟨pre, trivial, hj⟩⟩
theorem gears_any (m : MacV) (ad : Option Addr) (cap : Nat) (w : World) :
  Calls Tryz.prog 156 #[mV m ad cap] w fun r w' =>
   r = .returned (.func (.func 208) #[] #[.pointer (some ⟨w.heap.size, 0, none⟩)]) ∧ w' = w.alloc (.cells (mC m ad cap) 76) := by
 go_enter Tryz.func156, Tryz.ntmps156
 go_wp2
 go_ret
 exact ⟨rfl, rfl⟩
end Go.Proofs.YtngpopalpofhgaaGreatDoor

namespace Go.Proofs.YtngpopalpofhgaaGreatDoor
open Go.RowKit
set_option maxRecDepth 100000

theorem run_index4 (w : World) (a b c d : Value) (k : Int) (h0 : 0 ≤ k) (h1 : k < 4) : (Instr.index 199 (.agg #[a, b, c, d]) (.int .i64 k)).run Tryz.prog w = .ok ([a, b, c, d].getD k.toNat undef) w := by
 have hi : (Tryz.prog.info? 3).map (fun i => (i.zero, i.size, i.bytes)) = some (some (.int .i64 0), 1, 8) := by kernel_rfl
 obtain ⟨i, hi, _, hs, _⟩ := info_parts hi
 have hF := F_int
 obtain ⟨dd, hu, hd⟩ := hF
 have hk : k.toNat = 0 ∨ k.toNat = 1 ∨ k.toNat = 2 ∨ k.toNat = 3 := by omega
 have hagg : (isAgg 3).run Tryz.prog w = .ok false w := by
  unfold isAgg
  rw [Sem.run_bind, run_underlying hu w]
  cases dd <;> simp_all
 rcases hk with hk | hk | hk | hk <;> simp [Instr.index, asIntOf, run_underlying Tryz.underlying199, h0, h1, sizeOf, typeInfo, hi, hs, hk, part, hagg, Sem.run_bind]
theorem run_index32 (w : World) (a b c d e f : Value) (k : Int) (h0 : 0 ≤ k) (h1 : k < 3) : (Instr.index 200 (.agg #[a, b, c, d, e, f]) (.int .i64 k)).run Tryz.prog w = .ok ([.agg #[a, b], .agg #[c, d], .agg #[e, f]].getD k.toNat undef) w := by
 have hi2 : (Tryz.prog.info? 67).map (·.size) = some 2 := by kernel_rfl
 obtain ⟨i, hi, hs⟩ : ∃ i, Tryz.prog.info? 67 = some i ∧ i.size = 2 := by
  cases hi : Tryz.prog.info? 67 with
  | none => rw [hi] at hi2; cases hi2
  | some i => rw [hi] at hi2; exact ⟨i, rfl, by simpa using hi2⟩
 obtain ⟨dd, hu, hd⟩ := A_two
 have hk : k.toNat = 0 ∨ k.toNat = 1 ∨ k.toNat = 2 := by omega
 have hagg : (isAgg 67).run Tryz.prog w = .ok true w := by
  unfold isAgg
  rw [Sem.run_bind, run_underlying hu w]
  cases dd <;> simp_all
 rcases hk with hk | hk | hk <;> simp [Instr.index, asIntOf, run_underlying Tryz.underlying200, h0, h1, sizeOf, typeInfo, hi, hs, hk, part, hagg, Sem.run_bind]

section
variable {F : Fence} {n : Nat} {P : Program} {ops : Array Oper} {md : Region.Mode} {C : World → Prop}
theorem Oper.wpIn_of_quietR {o : Oper} {a : Act} {K : Act → Prop} {K' : Act → World → Prop} {Q' : Exit → Act → World → Prop} {w : World} (hnd : ∀ c, o.op ≠ .defer c) (hw : C w) (h : ∀ a w', C w' → K a → K' a w')
  (ha : o.askedIn F P a C) (hh : o.quietIn F n P a C K) : o.wpIn F n P a w K' Q' := by
 obtain ⟨v, h1, h2⟩ := hh
 have h3 := h1 w hw
 unfold Oper.quietAtIn at h3
 unfold Oper.wpIn
 refine ⟨ha w hw, ?_⟩
 rw [Oper.semAt_plain F _ _ hnd]
 generalize (execOp a.eval o).run P w = r at *
 cases r with
 | ok x w' =>
  cases x <;> simp only [Oper.quietUponIn] at h3 <;> simp only [Oper.uponIn]
  case value u =>
   obtain ⟨e1, e2⟩ := h3
   rw [e1, e2]
   exact h _ _ hw h2
  case skip =>
   obtain ⟨e1, e2⟩ := h3
   rw [e1, ← e2]
   exact h _ _ hw h2
  case enter f args =>
   obtain ⟨e1, hd, hc⟩ := h3
   rw [e1]
   exact ⟨hd, hc.mono fun e w'' ⟨he, hw''⟩ => by subst he; exact h _ _ hw'' h2⟩
 | halt x w' => simp only [Oper.quietUponIn] at h3
theorem wpOpIn_of_qOpInR {i : Nat} {a : Act} {K : Act → Prop} {K' : Act → World → Prop} {Q' : Exit → Act → World → Prop} {w : World} (hnd : ∀ o, ops[i]? = some o → ∀ c, o.op ≠ .defer c) (hC : C w) (h : ∀ a w', C w' → K a → K' a w')
  (hh : qOpIn F n P ops C i K a) : wpOpIn F n P ops Q' i K' a w := by
 unfold qOpIn at hh
 unfold wpOpIn
 split
 ·rename_i ho; simp only [ho] at hh; exact h _ _ hC hh
 ·rename_i o ho
  simp only [ho] at hh
  obtain ⟨ha, hh⟩ := hh
  split
  ·rename_i hw; simp only [hw, if_true] at hh; exact Oper.wpIn_of_quietR (hnd o ho) hC h ha hh
  ·rename_i hw; simp only [hw] at hh; exact ⟨ha w hC, h _ _ hC hh⟩
theorem wpAnyIn_of_quietR {Q : Act → Prop} {Q' : Exit → Act → World → Prop} (hnd : ∀ (i : Nat) o, ops[i]? = some o → ∀ c, o.op ≠ .defer c) (hQ : ∀ a w, C w → Q a → Q' .normal a w) : ∀ (fuel : Nat) (listed : Array Bool) (a : Act) (w : World), C w →
  wpAnyQIn F n P md ops C Q fuel listed a → wpAnyIn F n P md ops Q' fuel listed a w
 | 0, _, _, _, hw, h => ⟨h.1, hQ _ _ hw h.2⟩
 | fuel + 1, _, _, _, hw, h => ⟨fun h0 => hQ _ _ hw (h.1 h0), fun i hi => wpOpIn_of_qOpInR (hnd i) hw (fun a' w' hw' => wpAnyIn_of_quietR hnd hQ fuel _ a' w' hw') (h.2 i hi)⟩
theorem wpIn_region_quietR {id : Nat} {Q : Exit → Act → World → Prop} {a : Act} {w : World} {l : List Oper} (hnd : l.all (fun o => match o.op with | .defer _ => false | _ => true) = true) (hm : P.follows .mixedOrders = true) (hB : Region.lexB .any l.toArray = true)
  (h : wpQuietIn F n P l.toArray (fun w' => ∃ n, w' = w.drewN n) (fun a' => ∀ w', (∃ n, w' = w.drewN n) → Q .normal a' w') l a) : (Code.region id l.toArray true).wpIn F n P Q a w := by
 simp only [Region.lexB, Bool.and_eq_true] at hB
 have hnd' : ∀ (i : Nat) o, l.toArray[i]? = some o → ∀ c, o.op ≠ .defer c := by
  intro i o ho c hc
  have hm : o ∈ l := List.mem_of_getElem? (by simpa using ho)
  have := List.all_eq_true.1 hnd o hm
  rw [hc] at this
  cases this
 refine wpIn_region_any hm (wpAnyIn_of_quietR (C := fun w' => ∃ n, w' = w.drewN n) (Q := fun a' => ∀ w', (∃ n, w' = w.drewN n) → Q .normal a' w') hnd' (fun _ w' hw' h => h w' hw') _ _ _ _ ⟨1, rfl⟩ ?_)
 have := wpAnyQIn_lex (F := F) (n := n) (C := fun w' => ∃ n, w' = w.drewN n) (md := .any) hB.1 l 0 (Array.replicate l.toArray.size false) a (by simp) (by simpa using hB.2) (by simpa using h)
 simpa using this
theorem wpQIn_val {Q : Act → Prop} {a : Act} {o : Oper} {rest : List Oper} (v : Value) (hg : o.guard = none) (ha : ∀ w, o.about P w a.eval = none) (hr : ∀ w', (execOp a.eval o).run P w' = .ok (.value v) w')
  (h : wpQuietIn F n P ops C Q rest (a.put o.dst v)) : wpQuietIn F n P ops C Q (o :: rest) a := by
 refine ⟨fun w _ f hf => (by rw [ha w] at hf; cases hf), ?_⟩
 rw [if_pos (by simp [Region.wanted, hg])]
 refine ⟨v, fun w' _ => ?_, h⟩
 unfold Oper.quietAtIn
 rw [hr w']
 exact ⟨rfl, rfl⟩
theorem wpQIn_load {Q : Act → Prop} {a : Act} {rest : List Oper} {w : World} {d : Tmp} {e : TypeId} {s : Operand} {ty : TypeId} {p : String} {af : Array Edge} {pa : Addr} {v : Value} (hF : Flat P e) (hs : a.eval s = .pointer (some pa)) (hc : w.cell? pa = some v)
  (h : wpQuietIn F n P ops (fun w' => ∃ n, w' = w.drewN n) Q rest (a.put (some d) v)) : wpQuietIn F n P ops (fun w' => ∃ n, w' = w.drewN n) Q (⟨some d, .load e s, ty, p, af, none⟩ :: rest) a := by
 refine ⟨fun w _ f hf => (by simp [Oper.about] at hf), ?_⟩
 rw [if_pos (by simp [Region.wanted])]
 refine ⟨v, fun w' hw' => ?_, h⟩
 obtain ⟨k, rfl⟩ := hw'
 unfold Oper.quietAtIn
 have := run_loadAt_cell (P := P) (w.drewN k) (a := pa) (v := v) hF hc
 simp [execOp, hs, this, Result.andThen]
 exact ⟨rfl, rfl⟩
end
end Go.Proofs.YtngpopalpofhgaaGreatDoor

namespace Go.Proofs.YtngpopalpofhgaaGreatDoor
open Go.RowKit
set_option maxRecDepth 100000
section
variable {F : Fence} {m : Nat} {P : Program} {ops : Array Oper} {md : Region.Mode} {C : World → Prop}
def wpAnyLQIn (F : Fence) (m : Nat) (P : Program) (md : Region.Mode) (ops : Array Oper) (C : World → Prop) (n : Nat) (L : Array Bool → Act → Prop) : Nat → Array Bool → Act → Prop
 | 0, listed, a => L listed a
 | f + 1, listed, a =>
  Region.ready md ops listed ≠ [] ∧ ∀ i ∈ Region.ready md ops listed, i < n ∧ qOpIn F m P ops C i (wpAnyLQIn F m P md ops C n L f (listed.setIfInBounds i true)) a
theorem wpAnyIn_of_headQ {n g : Nat} {L : Array Bool → Act → Prop} {Q' : Exit → Act → World → Prop} (hnd : ∀ (i : Nat) o, ops[i]? = some o → ∀ c, o.op ≠ .defer c) (hL : ∀ listed a w, C w → L listed a → wpAnyIn F m P md ops Q' g listed a w) :
  ∀ (f : Nat) (listed : Array Bool) (a : Act) (w : World), C w → wpAnyLQIn F m P md ops C n L f listed a → wpAnyIn F m P md ops Q' (f + g) listed a w
 | 0, listed, a, w, hw, h => by rw [Nat.zero_add]; exact hL _ _ _ hw h
 | f + 1, listed, a, w, hw, h => by
   rw [show f + 1 + g = (f + g) + 1 by omega]
   exact ⟨fun h0 => absurd h0 h.1, fun i hi => wpOpIn_of_qOpInR (hnd i) hw (fun a' w' hw' h' => wpAnyIn_of_headQ hnd hL f _ a' w' hw' h') (h.2 i hi).2⟩
theorem wpAnyLQIn_first {n i : Nat} {oi : Oper} {v : Value} {L : Array Bool → Act → Prop} (hi : ops[i]? = some oi) (hsel : ∀ (j : Nat) (o : Oper) cs b, ops[j]? = some o → o.op ≠ .select cs b)
  (hs : Region.sinkB md ops n = true) (hc : Region.chainB md ops n = true) (hn : n < ops.size) (hin : i < n)
  (hdone : ∀ listed a, L listed a → ∀ j ∈ Region.ready md ops listed, n ≤ j) :
  ∀ (f : Nat) (listed : Array Bool) (a : Act), HeadInv md ops n listed →
   (∀ j oj, ops[j]? = some oj → j ≠ i → listed.getD j true = false → (∀ e ∈ oj.after, Region.binds md e = true → e.on ≠ i) → oi.apart ops oj = true) →
   i ∈ Region.ready md ops listed → YieldsQuiet F m P ops C oi v a →
   wpAnyLQIn F m P md ops C n L f (listed.setIfInBounds i true) (a.put oi.dst v) → wpAnyLQIn F m P md ops C n L (f + 1) listed a := by
 intro f
 induction f with
 | zero =>
  intro listed a inv _ hr hy H
  have hun := (mem_ready.1 hr).1
  refine ⟨fun h => (by rw [h] at hr; cases hr), fun j hj => ?_⟩
  have hjn : j < n := by
   rcases Nat.lt_or_ge j n with h | h
   ·exact h
   ·exact absurd hj (tail_waits hs hc hn inv _ i rfl hin hun j h)
  refine ⟨hjn, ?_⟩
  by_cases hji : j = i
  ·subst hji; exact hy.qOpIn hi H
  ·have := hdone _ _ H j (ready_mono hj hji)
   omega
 | succ f ih =>
  intro listed a inv hfree hr hy H
  have hun := (mem_ready.1 hr).1
  refine ⟨fun h => (by rw [h] at hr; cases hr), fun j hj => ?_⟩
  have hjn : j < n := by
   rcases Nat.lt_or_ge j n with h | h
   ·exact h
   ·exact absurd hj (tail_waits hs hc hn inv _ i rfl hin hun j h)
  refine ⟨hjn, ?_⟩
  by_cases hji : j = i
  ·subst hji; exact hy.qOpIn hi H
  ·have h1 := (H.2 j (ready_mono hj hji)).2
   obtain ⟨hjun, oj, hoj, hall⟩ := mem_ready.1 hj
   have hnot : ∀ e ∈ oj.after, Region.binds md e = true → e.on ≠ i := fun e he hb heq => by
    have h1 := hall e he hb
    rw [heq, getD_both hun] at h1
    cases h1
   have h2 := qOpIn_put hoj (hfree j oj hoj hji hjun hnot) (fun cs b => hsel i oi cs b hi) (fun cs b => hsel j oj cs b hoj) hy h1
   have hfree' : ∀ k ok, ops[k]? = some ok → k ≠ i → (listed.setIfInBounds j true).getD k true = false →
     (∀ e ∈ ok.after, Region.binds md e = true → e.on ≠ i) → oi.apart ops ok = true := fun k ok hk hki hun hno => by
    refine hfree k ok hk hki ?_ hno
    by_cases hjk : j = k
    ·subst hjk; exact hjun
    ·rw [getD_set_ne true hjk] at hun; exact hun
   refine qOpIn_mono (fun a' h3 => ih (listed.setIfInBounds j true) a' (inv.set hj hjn) hfree' (ready_mono hr (Ne.symm hji)) h3.1 ?_) h2
   rw [Array.setIfInBounds_comm _ _ hji]
   exact h3.2
theorem wpAnyLQIn_lex {n g : Nat} {Lq : Act → Prop} (hsel : Region.noSelect ops = true) (hs : Region.sinkB md ops n = true) (hc : Region.chainB md ops n = true) (hn : n < ops.size) :
  ∀ (l : List Oper) (k : Nat) (listed : Array Bool) (a : Act), (∀ j, j < l.length → l[j]? = ops[k + j]?) → k + l.length = n → HeadInv md ops n listed →
  Region.lexHead md ops g l.length k listed = true → wpQuietIn F m P ops C Lq l a →
  wpAnyLQIn F m P md ops C n (fun listed' a' => Region.seqB md ops g n listed' = true ∧ Lq a') l.length listed a
 | [], k, listed, a, _, hk, _, hB, h => by
   have : k = n := by simpa using hk
   subst this
   exact ⟨by simpa [Region.lexHead] using hB, h⟩
 | o :: l, k, listed, a, hl, hk, inv, hB, h => by
   have h0 : ops[k]? = some o := by simpa using (hl 0 (by simp)).symm
   simp only [List.length_cons, Region.lexHead, Bool.and_eq_true] at hB
   obtain ⟨⟨hr, hf⟩, hB'⟩ := hB
   have hkn : k < n := by simp only [List.length_cons] at hk; omega
   have hr' : k ∈ Region.ready md ops listed := by simpa using hr
   have hst : qOpIn F m P ops C k (wpQuietIn F m P ops C Lq l) a := by unfold qOpIn; simp only [h0]; exact h
   obtain ⟨v, hy, hK⟩ := yieldsQuiet_of_qOpIn h0 hst
   exact wpAnyLQIn_first h0 (Region.noSelect_spec hsel) hs hc hn hkn (fun listed' a' hL => seqB_ready hL.1) l.length listed a inv (Region.free_spec h0 hf) hr' hy
     (wpAnyLQIn_lex hsel hs hc hn l (k + 1) _ _ (fun j hj => by have := hl (j + 1) (by simp; omega); simpa [Nat.add_assoc, Nat.add_comm 1 j] using this) (by simp only [List.length_cons] at hk; omega) (inv.set hr' hkn) hB' hK)
theorem wpAnyIn_of_seq {Q' : Exit → Act → World → Prop} : ∀ (l : List Oper) (k : Nat) (listed : Array Bool) (a : Act) (w : World), (∀ j, l[j]? = ops[k + j]?) →
  Region.seqB md ops l.length k listed = true → wpListIn F m P ops Q' l a w → wpAnyIn F m P md ops Q' l.length listed a w
 | [], _, _, _, _, _, hB, h => ⟨by simpa [Region.seqB] using hB, h⟩
 | o :: l, k, listed, a, w, hl, hB, h => by
   have h0 : ops[k]? = some o := by simpa using (hl 0).symm
   simp only [List.length_cons, Region.seqB, Bool.and_eq_true, decide_eq_true_eq] at hB
   refine ⟨fun h1 => (by rw [hB.1] at h1; cases h1), fun i hi => ?_⟩
   rw [hB.1] at hi
   have hik : i = k := by simpa using hi
   subst hik
   have hw : wpOpIn F m P ops Q' i (wpListIn F m P ops Q' l) a w := by unfold wpOpIn; simp only [h0]; exact h
   exact wpOpIn_mono (fun a' w' h' => wpAnyIn_of_seq l (i + 1) _ a' w' (fun j => by have := hl (j + 1); simpa [Nat.add_assoc, Nat.add_comm 1 j] using this) hB.2 h') hw
theorem wpIn_region_qt {id : Nat} {Q : Exit → Act → World → Prop} {a : Act} {w : World} {l : List Oper} (n : Nat) (hnd : l.all (fun o => match o.op with | .defer _ => false | _ => true) = true) (hm : P.follows .mixedOrders = true) (hB : Region.lexTailB .any l.toArray n = true)
  (h : wpQuietIn F m P l.toArray (fun w' => ∃ n, w' = w.drewN n) (fun a' => ∀ w', (∃ n, w' = w.drewN n) → wpListIn F m P l.toArray Q (l.drop n) a' w') (l.take n) a) : (Code.region id l.toArray true).wpIn F m P Q a w := by
 have hnd' : ∀ (i : Nat) o, l.toArray[i]? = some o → ∀ c, o.op ≠ .defer c := by
  intro i o ho c hc
  have hm : o ∈ l := List.mem_of_getElem? (by simpa using ho)
  have := List.all_eq_true.1 hnd o hm
  rw [hc] at this
  cases this
 simp only [Region.lexTailB, Bool.and_eq_true, decide_eq_true_eq] at hB
 obtain ⟨⟨⟨⟨hsel, hn⟩, hs⟩, hc⟩, hlex⟩ := hB
 have hn' : n < l.length := by simpa using hn
 have htl : (l.take n).length = n := by simp; omega
 have hdl : (l.drop n).length = l.toArray.size - n := by simp
 have inv0 : HeadInv .any l.toArray n (Array.replicate l.toArray.size false) :=
  ⟨by simp, fun j oj _ hl => (by rw [getD_replicate_false] at hl; cases hl), fun t _ ht => getD_in (by simpa using ht) (getD_replicate_false _ _)⟩
 have H := wpAnyLQIn_lex (F := F) (m := m) (md := .any) (g := l.toArray.size - n) hsel hs hc hn (l.take n) 0 _ a (fun j hj => by
  have hj' : j < n := by rw [htl] at hj; exact hj
  simp [hj']) (by simpa using htl) inv0 (by rw [htl]; exact hlex) h
 refine wpIn_region_any hm ?_
 have := wpAnyIn_of_headQ (C := fun w' => ∃ n, w' = w.drewN n) (Q' := Q) (g := l.toArray.size - n) hnd' (fun listed a' w' hw' hL => by
  have := wpAnyIn_of_seq (md := .any) (Q' := Q) (l.drop n) n listed a' w' (fun j => by simp [List.getElem?_drop]) (by rw [hdl]; exact hL.1) (hL.2 w' hw')
  rwa [hdl] at this) _ _ _ _ ⟨1, rfl⟩ H
 rw [htl, show n + (l.toArray.size - n) = l.toArray.size by omega] at this
 exact this
end
end Go.Proofs.YtngpopalpofhgaaGreatDoor
