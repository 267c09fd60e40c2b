/- Contracts and plain facts that the claim uses (MaE MaF MaG MaH MaI MaJ MaO MaR BsD). Conditions: as each one states. -/
import Derived.RangeFuncNested
import Derived.RangeFuncBound
import Derived.RangeFuncCalls
import Derived.RangeFuncLeaves
import Derived.RangeFuncFrom
import Derived.Shelf.Abstract
import Derived.Shelf.RegionOpen
import Derived.WalkKit
import Derived.OwnWalkIn
import Derived.TacticsInMore
import Derived.LoopNIn
import Derived.LoopIn
import Derived.Test.YtdeoogbiipodmaaGreatProg
import Derived.WalkSpells
import Derived.Maps.AppendAt
import Derived.Deep.Quiet
import Derived.Maps.Own
import Derived.Maps.OwnSet
import Derived.Maps.Views
import Derived.WalkLawsBesides
import Derived.Laws.EntriesVeiled
import Derived.Deep.QuietTactic
import Derived.BigQuiet
import Derived.Shelf.Strings.Trim
import Derived.Shelf.Strings.SlTrimAscii
import Derived.Shelf.Strings.Repeat
import Derived.Shelf.Strings.OnBuilder
import Derived.Shelf.Strconv.Itoa1
import Derived.Shelf.Strconv.Itoa3
import Derived.Shelf.LaysM
import Derived.Ground.Names2Prog
import Derived.Lib.OthersKept
import Derived.Deep.RegionHeld3
import Derived.Deep.AppendLies
import Derived.Deep.RegionHeldLaw
import Derived.Deep.RegionLaw
import Derived.StillTail
import Derived.Laws.Tables
import Derived.IntWalk
import Derived.Laws.CopyOwn
import Derived.BigRegion
import Derived.ChangeAlike
import Derived.Shelf.Bits.Mul64
import Derived.Lib.ItoaLen
import Derived.Lib.ItoaMem
import Derived.Sort.LoopGhostIn
import Derived.Maps.RangeWalk
import Derived.Maps.Ext
import Derived.Test.YtdeoogbiipodmaaGreatXz01
import Derived.Test.YtdeoogbiipodmaaGreatXz02
import Derived.Test.YtdeoogbiipodmaaGreatXz03
import Derived.Test.YtdeoogbiipodmaaGreatXz04
set_option linter.all false

namespace Go.Proofs.YtdeoogbiipodmaaGreat
open Go.RowKit
set_option maxHeartbeats 8000000
set_option maxRecDepth 100000

theorem A_meet : Aggr Tryz.prog 122 := ⟨_, Tryz.underlying122, rfl⟩
abbrev meC (x : Nat × Int) : Array Value := #[.int .i64 x.1, .int .i64 x.2]
abbrev meO : Option (Nat × Int) → Array Value
 | some x => meC x
 | none => #[.int .i64 0, .int .i64 0]
/-- the answer of meet and first. -/
abbrev meV (r : Option (Nat × Int)) : Value := .tuple #[.agg (meO r), .bool r.isSome]
theorem results_cellSlot {P : Program} {w : World} {fn : Func} {tmps : Array Value} {t T k s : Nat} {us : Array Value} {T' : TypeId} {fr : Nat × Nat} {v : Value} (h : fn.results = #[.cell t T, .tmp s]) (ht : tmps.getD t undef = .pointer (some ⟨k, 0, none⟩)) (hs : tmps.getD s undef = v) (hu : Aggr P T) (hz : (P.info? T).map (·.size) = some us.size) (hb : w.heap[k]? = some (.cells us T' fr)) :
  (results fn tmps).run P w = .ok (.tuple #[.agg us, v]) w := by
 obtain ⟨d, hd, hdd⟩ := hu
 have := run_loadVar_row (P := P) w k T' T us fr d hb hd (by cases d <;> first | exact hdd | rfl | cases hdd) hz
 simp only [Array.getD_eq_getD_getElem?] at ht hs
 simp [results, h, ht, hs, asAddr, this]

theorem before_any (x y : Nat × Int) (w : World) :
  Calls Tryz.prog 104 #[.agg (meC x), .agg (meC y)] w fun r w' => r = .returned (.bool (befo x y)) ∧ Below w.heap.size w w' := by
 have hS := ((SL.nil w).box (.cells (meC x) 122)).box (.cells (meC y) 122)
 unfold befo
 by_cases h1 : (x.1 : Int) < y.1
 ·have d1 : decide ((x.1 : Int) < y.1) = true := decide_eq_true h1
  have d2 : decide (x.1 < y.1) = true := decide_eq_true (by omega)
  go_enter Tryz.func104, Tryz.ntmps104
  go_wp2
  go_ret
  exact ⟨by rw [d2]; rfl, hS.b⟩
 ·have d1 : decide ((x.1 : Int) < y.1) = false := decide_eq_false h1
  have d2 : decide (x.1 < y.1) = false := decide_eq_false (by omega)
  by_cases h3 : (x.1 : Int) = y.1
  ·have d3 : ((x.1 : Int) == y.1) = true := by simpa using h3
   have d4 : decide (x.1 = y.1) = true := decide_eq_true (by omega)
   rw [d2, d4]
   clear h3
   go_enter Tryz.func104, Tryz.ntmps104
   go_wp2
   go_ret
   exact ⟨by simp, hS.b⟩
  ·have d3 : ((x.1 : Int) == y.1) = false := by simpa using h3
   have d4 : decide (x.1 = y.1) = false := decide_eq_false (by omega)
   rw [d2, d4]
   clear h3
   go_enter Tryz.func104, Tryz.ntmps104
   go_wp2
   go_ret
   exact ⟨rfl, hS.b⟩

theorem meet_per2 {m : MacV} {a b : Int} (hg : m.gears ≤ 16) (a0 : 0 ≤ a) (a1 : a < 4 * m.gears) (b0 : 0 ≤ b) (b1 : b < 4 * m.gears) : ∃ L, 0 < L ∧ L ≤ 4096 ∧ itM m a L = a ∧ itM m b L = b := by
 obtain ⟨d, hd⟩ := ordM a0 a1
 obtain ⟨e, he⟩ := ordM b0 b1
 have h1 := hd.le
 have h2 := he.le
 rw [permM_len] at h1 h2
 refine ⟨e * d, Nat.mul_pos he.pos hd.pos, ?_, itP_mul hd.back e, ?_⟩
 ·have : e * d ≤ 64 * 64 := Nat.mul_le_mul (by omega) (by omega)
  omega
 ·rw [Nat.mul_comm]
  exact itP_mul he.back d

theorem meet_any (m : MacV) (ad : Option Addr) (cap : Nat) (a b : Int) (w : World) (hR : Ints w ad cap m.sw) (hg : m.gears ≤ 16) (a0 : 0 ≤ a) (a1 : a < 4 * m.gears) (b0 : 0 ≤ b) (b1 : b < 4 * m.gears) :
  Calls Tryz.prog 103 #[mV m ad cap, .int .i64 a, .int .i64 b] w fun r w' => r = .returned (meV (meetM m a b)) ∧ Below w.heap.size w w' := by
 have hcap := hR.le
 have hmx := hR.max
 obtain ⟨L, hL0, hL1, hLa, hLb⟩ := meet_per2 (m := m) hg a0 a1 b0 b1
 obtain ⟨r, hr⟩ : ∃ r, MeetR m a b r := ⟨_, meetM_spec m a b⟩
 have hrm : meetM m a b = r := (meetM_spec m a b).eq hr
 have CP := fun (s : Int) w (h0 : 0 ≤ s) (h1 : s < 4 * m.gears) => place_any m ad cap s w hg h0 h1
 have CN := fun (s : Int) w (h : Ints w ad cap m.sw) (h0 : 0 ≤ s) (h1 : s < 4 * m.gears) => mnext_any m ad cap s w h hg h0 h1
 have CS := fun (p : Int) w => shared_any m ad cap p w
 rw [hrm]
 have hS := ((SL.nil w).box (.cells (mC m ad cap) 24)).box (.cells #[.int .i64 0, .int .i64 0] 122)
 have HP := hid CP; have HN := hid CN; have HS := hid CS; have HM := hid hr; have HLA := hid hLa; have HLB := hid hLb
 clear CP CN CS hr hrm hLa hLb
 go_enter Tryz.func103, Tryz.ntmps103
 go_wp2_with fail
 go_loopw [8, 9, 10] (fun x y i wr => ∃ n : Nat, n < L ∧ x = .int .i64 (itM m a n) ∧ y = .int .i64 (itM m b n) ∧ i = .int .i64 n ∧ (∀ k, k < n → hitM m (itM m a k) (itM m b k) = false) ∧ SL w.heap.size w wr [pBlk (w.heap.size + 1) (.cells #[.int .i64 0, .int .i64 0] 122), pBlk w.heap.size (.cells (mC m ad cap) 24)]) (fun _ _ i _ => L - (intOf i).toNat)
 case atStart => exact ⟨0, hL0, rfl, rfl, rfl, fun k hk => by omega, by simpa using hS⟩
 case round =>
  clear hS
  obtain ⟨n, hn, rfl, rfl, rfl, hno, hSr⟩ := hrel
  have hX := itM_rng a0 a1 n
  have hY := itM_rng b0 b1 n
  have hX1 := itM_succ a0 a1 n
  have hY1 := itM_succ b0 b1 n
  have hRr := hR.below hSr.b
  obtain ⟨X, eX⟩ : ∃ X, X = itM m a n := ⟨_, rfl⟩
  obtain ⟨Y, eY⟩ : ∃ Y, Y = itM m b n := ⟨_, rfl⟩
  rw [← eX] at hX hX1 ⊢
  rw [← eY] at hY hY1 ⊢
  have CP := fun w => HP.out X w hX.1 hX.2
  have CQ := fun w => HP.out Y w hY.1 hY.2
  have CX := fun w h => HN.out X w h hX.1 hX.2
  have CY := fun w h => HN.out Y w h hY.1 hY.2
  have hhit : hitM m X Y = ((decide (0 ≤ placeM m X) && sharedM m (placeM m X)) && decide (placeM m X = placeM m Y)) := rfl
  obtain ⟨p, hp⟩ : ∃ p, p = placeM m X := ⟨_, rfl⟩
  obtain ⟨q, hq⟩ : ∃ q, q = placeM m Y := ⟨_, rfl⟩
  rw [← hp] at CP hhit
  rw [← hq] at CQ hhit
  have CS := HS.out p
  have q0 := (hSr.blk 1 rfl).1
  have HNO := hid hno; have EX := hid eX; have EY := hid eY; have X1 := hid hX1; have Y1 := hid hY1; have HPP := hid hp
  have HCX := hid CX; have HCY := hid CY
  clear hno eX eY hX1 hY1 CX CY hp hq
  -- what follows where there is no meeting
  by_cases hp0 : 0 ≤ p
  ·have hpd : decide (0 ≤ p) = true := decide_eq_true hp0
   cases hsh : sharedM m p
   ·rw [hsh] at CS
    rw [hsh, Bool.and_false, Bool.false_and] at hhit
    have HIT := hid hhit; have HC := hid CP; have HD := hid CS
    clear CP CQ CS hhit hsh
    go_wp2_with (with_reducible refine wpList_ldS (n := 4) (us := mC m ad cap) A_mach kR wU wU (by assumption) wU wU ?_)
    refine (HC.out _).mono ?_
    rintro e w1 ⟨rfl, b1⟩
    have hS1 := hSr.mono b1
    have q1 := (hS1.blk 1 rfl).1
    go_wp2_with (with_reducible refine wpList_ldS (n := 4) (us := mC m ad cap) A_mach kR wU wU (by assumption) wU wU ?_)
    refine (HD.out _).mono ?_
    rintro e w2 ⟨rfl, b2⟩
    have hS4 := hS1.mono b2
    clear q0 q1
    go_wp2_with fail
    have R4 := hR.below hS4.b
    have q4 := (hS4.blk 1 rfl).1
    refine wp_region_q kR kR ?_
    repeat (first | ((with_reducible refine wpB_loadS (n := 4) (us := mC m ad cap) A_mach kR wU wU (by assumption) wU wU ?_); (try simp only [Act.put, pA, pB, pC])) | ((refine wpB_call (.int .i64 (nextM m X)) wU (fun w' => ?_) (fun w' hw' => HCX.out w' (R4.below hw')) ?_); (focus (go_simp; done)); (try simp only [Act.put, pA, pB, pC])) | ((refine wpB_call (.int .i64 (nextM m Y)) wU (fun w' => ?_) (fun w' hw' => HCY.out w' (R4.below hw')) ?_); (focus (go_simp; done)); (try simp only [Act.put, pA, pB, pC])) |  ((with_reducible refine wpB_load (by first | exact F_int | fail) wU wU (by assumption) wU ?_); (try simp only [Act.put, pA, pB, pC])) | ((with_reducible refine wpB_loadS (n := 2) (us := #[_, _]) (by fail) kR wU wU (by assumption) wU wU ?_); (try simp only [Act.put, pA, pB, pC])) | ((with_reducible refine wpB_loadS (n := 4) (us := #[_, _, _, _]) (by fail) kR wU wU (by assumption) wU wU ?_); (try simp only [Act.put, pA, pB, pC])) | ((refine wpQ_oneG ?_ wU (fun w' => ?_) ?_); rotate_left; (go_simp; rfl); (try simp only [Act.put, pA, pB, pC])))
    refine wpQuiet_nil ?_
    intro w5 hb5
    have hS5 := hS4.mono hb5
    rw [← X1.out, ← Y1.out]
    have hno2 : ∀ k, k < n + 1 → hitM m (itM m a k) (itM m b k) = false := by
     intro k hk
     by_cases e : k = n
     ·rw [e, ← EX.out, ← EY.out]; exact HIT.out
     ·exact HNO.out k (by omega)
    by_cases ea : itM m a (n + 1) = a
    ·by_cases eb : itM m b (n + 1) = b
     ·have hN : MeetR m a b none := meet_none (by omega) ea eb hno2
      have hrn := HM.out.eq hN
      subst hrn
      clear hno2 hN
      rw [ea, eb]
      have da : (a == a) = true := by simp
      have db : (b == b) = true := by simp
      clear ea eb
      go_wp2_with ((with_reducible refine wpList_stoR (us := #[.int .i64 0, .int .i64 0]) 0 wU wU (hS5) wU kR wU wU ?_); intro w6 hS6)
      exact bodyPost_ret (results_cellSlot rfl rfl rfl A_meet kR (hS6.blk 0 rfl).1) rfl ⟨rfl, hS6.b⟩
     ·have da : (itM m a (n + 1) == a) = true := by simpa using ea
      have db : (itM m b (n + 1) == b) = false := by simpa using eb
      have hnl : n + 1 ≠ L := fun e => eb (by rw [e]; exact HLB.out)
      have HNO2 := hid hno2
      clear ea eb hno2
      go_wp2_with fail
      exact ⟨⟨n + 1, by omega, rfl, rfl, by go_num, HNO2.out, hS5⟩, by simp [intOf]; omega⟩
    ·have da : (itM m a (n + 1) == a) = false := by simpa using ea
     have hnl : n + 1 ≠ L := fun e => ea (by rw [e]; exact HLA.out)
     have HNO2 := hid hno2
     clear ea hno2
     go_wp2_with fail
     exact ⟨⟨n + 1, by omega, rfl, rfl, by go_num, HNO2.out, hS5⟩, by simp [intOf]; omega⟩
   ·rw [hsh] at CS
    by_cases hpq : p = q
    ·rw [hsh, hpd, decide_eq_true hpq] at hhit
     have hM : MeetR m a b (some (n, p)) := ⟨by rw [← EX.out, ← EY.out]; exact hhit, by rw [← EX.out]; exact HPP.out, HNO.out⟩
     have hrn := HM.out.eq hM
     subst hrn
     have hpb : (p == q) = true := by simpa using hpq
     have HC := hid CP; have HD := hid CS; have HE := hid CQ
     clear CP CQ CS hhit hsh hpq hM
     go_wp2_with (with_reducible refine wpList_ldS (n := 4) (us := mC m ad cap) A_mach kR wU wU (by assumption) wU wU ?_)
     refine (HC.out _).mono ?_
     rintro e w1 ⟨rfl, b1⟩
     have hS1 := hSr.mono b1
     have q1 := (hS1.blk 1 rfl).1
     go_wp2_with (with_reducible refine wpList_ldS (n := 4) (us := mC m ad cap) A_mach kR wU wU (by assumption) wU wU ?_)
     refine (HD.out _).mono ?_
     rintro e w2 ⟨rfl, b2⟩
     have hS2 := hS1.mono b2
     have q2 := (hS2.blk 1 rfl).1
     clear q1
     go_wp2_with (with_reducible refine wpList_ldS (n := 4) (us := mC m ad cap) A_mach kR wU wU (by assumption) wU wU ?_)
     refine (HE.out _).mono ?_
     rintro e w3 ⟨rfl, b3⟩
     have hS3 := hS2.mono b3
     clear q0 q2
     go_wp2_with ((with_reducible refine wpList_stoR (us := #[.int .i64 n, .int .i64 p]) 0 wU wU (hS3) wU kR wU wU ?_); intro w6 hS6)
     exact bodyPost_ret (results_cellSlot rfl rfl rfl A_meet kR (hS6.blk 0 rfl).1) rfl ⟨rfl, hS6.b⟩
    ·rw [hsh, hpd, decide_eq_false hpq] at hhit
     have hpb : (p == q) = false := by simpa using hpq
     have HIT := hid hhit; have HC := hid CP; have HD := hid CS; have HE := hid CQ
     clear CP CQ CS hhit hsh hpq
     go_wp2_with (with_reducible refine wpList_ldS (n := 4) (us := mC m ad cap) A_mach kR wU wU (by assumption) wU wU ?_)
     refine (HC.out _).mono ?_
     rintro e w1 ⟨rfl, b1⟩
     have hS1 := hSr.mono b1
     have q1 := (hS1.blk 1 rfl).1
     go_wp2_with (with_reducible refine wpList_ldS (n := 4) (us := mC m ad cap) A_mach kR wU wU (by assumption) wU wU ?_)
     refine (HD.out _).mono ?_
     rintro e w2 ⟨rfl, b2⟩
     have hS2 := hS1.mono b2
     have q2 := (hS2.blk 1 rfl).1
     clear q1
     go_wp2_with (with_reducible refine wpList_ldS (n := 4) (us := mC m ad cap) A_mach kR wU wU (by assumption) wU wU ?_)
     refine (HE.out _).mono ?_
     rintro e w3 ⟨rfl, b3⟩
     have hS4 := hS2.mono b3
     clear q0 q2
     go_wp2_with fail
     have R4 := hR.below hS4.b
     have q4 := (hS4.blk 1 rfl).1
     refine wp_region_q kR kR ?_
     repeat (first | ((with_reducible refine wpB_loadS (n := 4) (us := mC m ad cap) A_mach kR wU wU (by assumption) wU wU ?_); (try simp only [Act.put, pA, pB, pC])) | ((refine wpB_call (.int .i64 (nextM m X)) wU (fun w' => ?_) (fun w' hw' => HCX.out w' (R4.below hw')) ?_); (focus (go_simp; done)); (try simp only [Act.put, pA, pB, pC])) | ((refine wpB_call (.int .i64 (nextM m Y)) wU (fun w' => ?_) (fun w' hw' => HCY.out w' (R4.below hw')) ?_); (focus (go_simp; done)); (try simp only [Act.put, pA, pB, pC])) |  ((with_reducible refine wpB_load (by first | exact F_int | fail) wU wU (by assumption) wU ?_); (try simp only [Act.put, pA, pB, pC])) | ((with_reducible refine wpB_loadS (n := 2) (us := #[_, _]) (by fail) kR wU wU (by assumption) wU wU ?_); (try simp only [Act.put, pA, pB, pC])) | ((with_reducible refine wpB_loadS (n := 4) (us := #[_, _, _, _]) (by fail) kR wU wU (by assumption) wU wU ?_); (try simp only [Act.put, pA, pB, pC])) | ((refine wpQ_oneG ?_ wU (fun w' => ?_) ?_); rotate_left; (go_simp; rfl); (try simp only [Act.put, pA, pB, pC])))
     refine wpQuiet_nil ?_
     intro w5 hb5
     have hS5 := hS4.mono hb5
     rw [← X1.out, ← Y1.out]
     have hno2 : ∀ k, k < n + 1 → hitM m (itM m a k) (itM m b k) = false := by
      intro k hk
      by_cases e : k = n
      ·rw [e, ← EX.out, ← EY.out]; exact HIT.out
      ·exact HNO.out k (by omega)
     by_cases ea : itM m a (n + 1) = a
     ·by_cases eb : itM m b (n + 1) = b
      ·have hN : MeetR m a b none := meet_none (by omega) ea eb hno2
       have hrn := HM.out.eq hN
       subst hrn
       clear hno2 hN
       rw [ea, eb]
       have da : (a == a) = true := by simp
       have db : (b == b) = true := by simp
       clear ea eb
       go_wp2_with ((with_reducible refine wpList_stoR (us := #[.int .i64 0, .int .i64 0]) 0 wU wU (hS5) wU kR wU wU ?_); intro w6 hS6)
       exact bodyPost_ret (results_cellSlot rfl rfl rfl A_meet kR (hS6.blk 0 rfl).1) rfl ⟨rfl, hS6.b⟩
      ·have da : (itM m a (n + 1) == a) = true := by simpa using ea
       have db : (itM m b (n + 1) == b) = false := by simpa using eb
       have hnl : n + 1 ≠ L := fun e => eb (by rw [e]; exact HLB.out)
       have HNO2 := hid hno2
       clear ea eb hno2
       go_wp2_with fail
       exact ⟨⟨n + 1, by omega, rfl, rfl, by go_num, HNO2.out, hS5⟩, by simp [intOf]; omega⟩
     ·have da : (itM m a (n + 1) == a) = false := by simpa using ea
      have hnl : n + 1 ≠ L := fun e => ea (by rw [e]; exact HLA.out)
      have HNO2 := hid hno2
      clear ea hno2
      go_wp2_with fail
      exact ⟨⟨n + 1, by omega, rfl, rfl, by go_num, HNO2.out, hS5⟩, by simp [intOf]; omega⟩
  ·have hpd : decide (0 ≤ p) = false := decide_eq_false hp0
   rw [hpd, Bool.false_and, Bool.false_and] at hhit
   have HIT := hid hhit; have HC := hid CP
   clear CP CQ CS hhit
   go_wp2_with (with_reducible refine wpList_ldS (n := 4) (us := mC m ad cap) A_mach kR wU wU (by assumption) wU wU ?_)
   refine (HC.out _).mono ?_
   rintro e w1 ⟨rfl, b1⟩
   have hS4 := hSr.mono b1
   clear q0
   go_wp2_with fail
   have R4 := hR.below hS4.b
   have q4 := (hS4.blk 1 rfl).1
   refine wp_region_q kR kR ?_
   repeat (first | ((with_reducible refine wpB_loadS (n := 4) (us := mC m ad cap) A_mach kR wU wU (by assumption) wU wU ?_); (try simp only [Act.put, pA, pB, pC])) | ((refine wpB_call (.int .i64 (nextM m X)) wU (fun w' => ?_) (fun w' hw' => HCX.out w' (R4.below hw')) ?_); (focus (go_simp; done)); (try simp only [Act.put, pA, pB, pC])) | ((refine wpB_call (.int .i64 (nextM m Y)) wU (fun w' => ?_) (fun w' hw' => HCY.out w' (R4.below hw')) ?_); (focus (go_simp; done)); (try simp only [Act.put, pA, pB, pC])) |  ((with_reducible refine wpB_load (by first | exact F_int | fail) wU wU (by assumption) wU ?_); (try simp only [Act.put, pA, pB, pC])) | ((with_reducible refine wpB_loadS (n := 2) (us := #[_, _]) (by fail) kR wU wU (by assumption) wU wU ?_); (try simp only [Act.put, pA, pB, pC])) | ((with_reducible refine wpB_loadS (n := 4) (us := #[_, _, _, _]) (by fail) kR wU wU (by assumption) wU wU ?_); (try simp only [Act.put, pA, pB, pC])) | ((refine wpQ_oneG ?_ wU (fun w' => ?_) ?_); rotate_left; (go_simp; rfl); (try simp only [Act.put, pA, pB, pC])))
   refine wpQuiet_nil ?_
   intro w5 hb5
   have hS5 := hS4.mono hb5
   rw [← X1.out, ← Y1.out]
   have hno2 : ∀ k, k < n + 1 → hitM m (itM m a k) (itM m b k) = false := by
    intro k hk
    by_cases e : k = n
    ·rw [e, ← EX.out, ← EY.out]; exact HIT.out
    ·exact HNO.out k (by omega)
   by_cases ea : itM m a (n + 1) = a
   ·by_cases eb : itM m b (n + 1) = b
    ·have hN : MeetR m a b none := meet_none (by omega) ea eb hno2
     have hrn := HM.out.eq hN
     subst hrn
     clear hno2 hN
     rw [ea, eb]
     have da : (a == a) = true := by simp
     have db : (b == b) = true := by simp
     clear ea eb
     go_wp2_with ((with_reducible refine wpList_stoR (us := #[.int .i64 0, .int .i64 0]) 0 wU wU (hS5) wU kR wU wU ?_); intro w6 hS6)
     exact bodyPost_ret (results_cellSlot rfl rfl rfl A_meet kR (hS6.blk 0 rfl).1) rfl ⟨rfl, hS6.b⟩
    ·have da : (itM m a (n + 1) == a) = true := by simpa using ea
     have db : (itM m b (n + 1) == b) = false := by simpa using eb
     have hnl : n + 1 ≠ L := fun e => eb (by rw [e]; exact HLB.out)
     have HNO2 := hid hno2
     clear ea eb hno2
     go_wp2_with fail
     exact ⟨⟨n + 1, by omega, rfl, rfl, by go_num, HNO2.out, hS5⟩, by simp [intOf]; omega⟩
   ·have da : (itM m a (n + 1) == a) = false := by simpa using ea
    have hnl : n + 1 ≠ L := fun e => ea (by rw [e]; exact HLA.out)
    have HNO2 := hid hno2
    clear ea hno2
    go_wp2_with fail
    exact ⟨⟨n + 1, by omega, rfl, rfl, by go_num, HNO2.out, hS5⟩, by simp [intOf]; omega⟩
end Go.Proofs.YtdeoogbiipodmaaGreat

namespace Go.Proofs.YtdeoogbiipodmaaGreat
open Go.RowKit
set_option maxHeartbeats 8000000
set_option maxRecDepth 100000

theorem intsTake {w : World} {a : Option Addr} {cap m : Nat} {r : List Int} (h : Ints w a cap r) (hm : m ≤ r.length) : Ints w a cap (r.take m) := by
 have h1 := h.le
 refine ⟨cIntS, by simp; omega, h.2.2.1, h.2.2.2.1, fun j u hj => ?_⟩
 have e : ∀ L : List Int, (L.flatMap fun x => (cInt x).cells.toList) = L.map cInt := by
  intro L
  induction L with
  | nil => rfl
  | cons x r ih => rw [List.flatMap_cons, ih]; rfl
 refine h.2.2.2.2 j u ?_
 rw [e] at hj ⊢
 rw [List.map_take, List.getElem?_take] at hj
 split at hj
 ·exact hj
 ·cases hj
/-- the pairs gone through at a place of both loops. -/
def pairsAt (l : List Int) (i j : Nat) : List (Int × Int) := pairsTo l i ++ (l.take j).map fun b => (atD 0 l i, b)
theorem pairsAt_zero (l : List Int) (i : Nat) : pairsAt l i 0 = pairsTo l i := by simp [pairsAt]
theorem pairsAt_last (l : List Int) (i : Nat) : pairsAt l i i = pairsTo l (i + 1) := by rw [pairsTo_succ]; rfl
theorem take_snoc {l : List Int} {j : Nat} (h : j < l.length) : l.take (j + 1) = l.take j ++ [atD 0 l j] := by
 rw [List.take_succ_eq_append_getElem h]
 simp [atD, h]
theorem first_step (m : MacV) {l : List Int} {i j : Nat} (h : j < l.length) : firstTo m (pairsAt l i (j + 1)) = bestS (firstTo m (pairsAt l i j)) (meetM m (atD 0 l i) (atD 0 l j)) := by
 unfold pairsAt
 rw [take_snoc h, List.map_append, ← List.append_assoc]
 exact firstTo_snoc m _ _

theorem firstB_any (m : MacV) (ad al : Option Addr) (cap cl : Nat) (l : List Int) (w : World) (hR : Ints w ad cap m.sw) (hL : Ints w al cl l) (hg : m.gears ≤ 16) (hl : ∀ x ∈ l, 0 ≤ x ∧ x < 4 * m.gears) :
  Calls Tryz.prog 87 #[mV m ad cap, .slice al l.length cl] w fun r w' => r = .returned (meV (firstM m l)) ∧ Below w.heap.size w w' := by
 have hcap := hL.le
 have hmx := hL.max
 have CM := fun (i j : Nat) w (h : Ints w ad cap m.sw) (hi : i < l.length) (hj : j < l.length) => meet_any m ad cap (atD 0 l i) (atD 0 l j) w h hg (hl _ (atD_memZ (by omega) (by omega))).1 (hl _ (atD_memZ (by omega) (by omega))).2 (hl _ (atD_memZ (by omega) (by omega))).1 (hl _ (atD_memZ (by omega) (by omega))).2
 have hS := (((SL.nil w).box (.cells (mC m ad cap) 24)).box (.cells #[.int .i64 0, .int .i64 0] 122)).box (.cells (meO none) 122)
 simp only [World.size_alloc] at hS
 have HM := hid CM
 clear CM hl
 go_enter Tryz.func87, Tryz.ntmps87
 go_wp2_with fail
 go_loopw [7, 16] (fun fo i wr => ∃ k : Nat, k ≤ l.length ∧ fo = .bool (firstTo m (pairsTo l k)).isSome ∧ i = .int .i64 k ∧ SL w.heap.size w wr [pBlk (w.heap.size + 1 + 1) (.cells (meO (firstTo m (pairsTo l k))) 122), pBlk (w.heap.size + 1) (.cells #[.int .i64 0, .int .i64 0] 122), pBlk w.heap.size (.cells (mC m ad cap) 24)]) (fun _ i _ => l.length - (intOf i).toNat)
 case atStart => exact ⟨0, by omega, rfl, rfl, hS⟩
 case round =>
  clear hS
  obtain ⟨k, hk, rfl, rfl, hSr⟩ := hrel
  by_cases hlt : k < l.length
  ·have hLr := hL.below hSr.b
   go_wp2_with (with_reducible refine wpList_idx _ 0 E_ints F_int cInt1 wU wU (hLr) oD oD (fun _ => wU) (fun _ => ?_))
   go_loopw [7, 25] (fun fo i wq => ∃ j : Nat, j ≤ k ∧ fo = .bool (firstTo m (pairsAt l k j)).isSome ∧ i = .int .i64 j ∧ SL w.heap.size w wq [pBlk (w.heap.size + 1 + 1) (.cells (meO (firstTo m (pairsAt l k j))) 122), pBlk (w.heap.size + 1) (.cells #[.int .i64 0, .int .i64 0] 122), pBlk w.heap.size (.cells (mC m ad cap) 24)]) (fun _ i _ => k - (intOf i).toNat)
   case atStart => exact ⟨0, by omega, by rw [pairsAt_zero], rfl, by rw [pairsAt_zero]; exact hSr⟩
   case round =>
    clear hSr hLr
    obtain ⟨j, hj, rfl, rfl, hSq⟩ := hrel
    by_cases hjk : j < k
    ·have hst := first_step m (l := l) (i := k) (j := j) (by omega)
     have hCM := fun w h => HM.out k j w h hlt (by omega)
     have hRq := hR.below hSq.b
     have hLq := intsTake (hL.below hSq.b) (m := k) (by omega)
     have hlk : (l.take k).length = k := by simp; omega
     have hat : atD 0 (l.take k) j = atD 0 l j := atD_take hjk
     obtain ⟨B, hB⟩ : ∃ B, B = firstTo m (pairsAt l k j) := ⟨_, rfl⟩
     obtain ⟨R, hRR⟩ : ∃ R, R = meetM m (atD 0 l k) (atD 0 l j) := ⟨_, rfl⟩
     rw [← hB, ← hRR] at hst
     rw [← hRR] at hCM
     rw [← hB] at hSq ⊢
     have HC := hid hCM
     have HAT := hid hat
     have q2 := (hSq.blk 2 rfl).1
     clear hCM hB hRR hat
     cases R with
     | none =>
      have hst2 : firstTo m (pairsAt l k (j + 1)) = B := hst
      have HST := hid hst2
      clear hst hst2
      go_wp2_with (first | ((with_reducible refine wpList_idxN _ 0 E_ints F_int cInt1 wU wU (hLq) (hlk) oD oD (fun _ => wU) (fun _ => ?_)); rw [HAT.out]) | (with_reducible refine wpList_ldS (n := 4) (us := mC m ad cap) A_mach kR wU wU (by assumption) wU wU ?_))
      refine (HC.out _ hRq).mono ?_
      rintro e w4 ⟨rfl, b4⟩
      have hS4 := hSq.mono b4
      have hS5 := hS4.box (.cells #[.int .i64 0, .int .i64 0] 122)
      clear q2
      go_wp2_with ((with_reducible refine wpList_stoR (us := #[.int .i64 0, .int .i64 0]) 0 wU wU (hS5) wU kR wU wU ?_); intro w6 hS6)
      exact ⟨⟨j + 1, by omega, by rw [HST.out], by go_num, by rw [HST.out]; exact hS6.tail⟩, by simp [intOf]; omega⟩
     | some v =>
      cases B with
      | none =>
       have hst2 : firstTo m (pairsAt l k (j + 1)) = some v := hst
       have HST := hid hst2
       clear hst hst2
       go_wp2_with (first | ((with_reducible refine wpList_idxN _ 0 E_ints F_int cInt1 wU wU (hLq) (hlk) oD oD (fun _ => wU) (fun _ => ?_)); rw [HAT.out]) | (with_reducible refine wpList_ldS (n := 4) (us := mC m ad cap) A_mach kR wU wU (by assumption) wU wU ?_))
       refine (HC.out _ hRq).mono ?_
       rintro e w4 ⟨rfl, b4⟩
       have hS4 := hSq.mono b4
       have hS5 := hS4.box (.cells #[.int .i64 0, .int .i64 0] 122)
       clear q2
       have hS6 : ∀ w6, SL w.heap.size w w6 [pBlk w4.heap.size (.cells (meC v) 122), pBlk (w.heap.size + 1 + 1) (.cells (meO none) 122), pBlk (w.heap.size + 1) (.cells #[.int .i64 0, .int .i64 0] 122), pBlk w.heap.size (.cells (mC m ad cap) 24)] → w6.heap[w4.heap.size]? = some (.cells (meC v) 122) := fun w6 h => (h.blk 0 rfl).1
       go_wp2_with (first | (((with_reducible refine wpList_stoR (us := meC v) 0 wU wU (hS5) wU kR wU wU ?_); intro w6 hT6); have q6 := hS6 _ hT6) | (with_reducible refine wpList_ldS (n := 2) (us := meC v) A_meet kR wU wU (by assumption) wU wU ?_) | ((with_reducible refine wpList_stoR (us := meC v) 1 wU wU (hT6) wU kR wU wU ?_); intro w7 hT7))
       exact ⟨⟨j + 1, by omega, by rw [HST.out]; rfl, by go_num, by rw [HST.out]; exact hT7.tail⟩, by simp [intOf]; omega⟩
      | some u =>
       cases hb : befo v u
       ·have hst2 : firstTo m (pairsAt l k (j + 1)) = some u := by rw [hst]; show (if befo v u then some v else some u) = _; rw [hb]; rfl
        have CB := fun w => before_any v u w
        rw [hb] at CB
        have HST := hid hst2; have HB := hid CB
        clear hst hst2 CB hb
        go_wp2_with (first | ((with_reducible refine wpList_idxN _ 0 E_ints F_int cInt1 wU wU (hLq) (hlk) oD oD (fun _ => wU) (fun _ => ?_)); rw [HAT.out]) | (with_reducible refine wpList_ldS (n := 4) (us := mC m ad cap) A_mach kR wU wU (by assumption) wU wU ?_))
        refine (HC.out _ hRq).mono ?_
        rintro e w4 ⟨rfl, b4⟩
        have hS4 := hSq.mono b4
        have hS5 := hS4.box (.cells #[.int .i64 0, .int .i64 0] 122)
        clear q2
        go_wp2_with (first | (((with_reducible refine wpList_stoR (us := meC v) 0 wU wU (hS5) wU kR wU wU ?_); intro w6 hT6); have q6 := (hT6.blk 0 rfl).1; have q7 := (hT6.blk 1 rfl).1) | (with_reducible refine wpList_ldS (n := 2) (us := meC v) A_meet kR wU wU (by assumption) wU wU ?_) | (with_reducible refine wpList_ldS (n := 2) (us := meC u) A_meet kR wU wU (by assumption) wU wU ?_))
        refine (HB.out _).mono ?_
        rintro e w7 ⟨rfl, b7⟩
        have hT7 := hT6.mono b7
        clear q6 q7
        go_wp2_with fail
        exact ⟨⟨j + 1, by omega, by rw [HST.out]; rfl, by go_num, by rw [HST.out]; exact hT7.tail⟩, by simp [intOf]; omega⟩
       ·have hst2 : firstTo m (pairsAt l k (j + 1)) = some v := by rw [hst]; show (if befo v u then some v else some u) = _; rw [hb]; rfl
        have CB := fun w => before_any v u w
        rw [hb] at CB
        have HST := hid hst2; have HB := hid CB
        clear hst hst2 CB hb
        go_wp2_with (first | ((with_reducible refine wpList_idxN _ 0 E_ints F_int cInt1 wU wU (hLq) (hlk) oD oD (fun _ => wU) (fun _ => ?_)); rw [HAT.out]) | (with_reducible refine wpList_ldS (n := 4) (us := mC m ad cap) A_mach kR wU wU (by assumption) wU wU ?_))
        refine (HC.out _ hRq).mono ?_
        rintro e w4 ⟨rfl, b4⟩
        have hS4 := hSq.mono b4
        have hS5 := hS4.box (.cells #[.int .i64 0, .int .i64 0] 122)
        clear q2
        go_wp2_with (first | (((with_reducible refine wpList_stoR (us := meC v) 0 wU wU (hS5) wU kR wU wU ?_); intro w6 hT6); have q6 := (hT6.blk 0 rfl).1; have q7 := (hT6.blk 1 rfl).1) | (with_reducible refine wpList_ldS (n := 2) (us := meC v) A_meet kR wU wU (by assumption) wU wU ?_) | (with_reducible refine wpList_ldS (n := 2) (us := meC u) A_meet kR wU wU (by assumption) wU wU ?_))
        refine (HB.out _).mono ?_
        rintro e w7 ⟨rfl, b7⟩
        have hT7 := hT6.mono b7
        clear q6 q7
        have q8 := (hT7.blk 0 rfl).1
        go_wp2_with (first | (with_reducible refine wpList_ldS (n := 2) (us := meC v) A_meet kR wU wU (by assumption) wU wU ?_) | ((with_reducible refine wpList_stoR (us := meC v) 1 wU wU (hT7) wU kR wU wU ?_); intro w8 hT8))
        exact ⟨⟨j + 1, by omega, by rw [HST.out]; rfl, by go_num, by rw [HST.out]; exact hT8.tail⟩, by simp [intOf]; omega⟩
    ·have hjj : j = k := by omega
     subst hjj
     have e := pairsAt_last l j
     have HE := hid e
     clear e
     go_wp2_with fail
     exact ⟨⟨j + 1, by omega, by rw [HE.out], by go_num, by rw [← HE.out]; exact hSq⟩, by simp [intOf]; omega⟩
  ·have hkk : k = l.length := by omega
   subst hkk
   have e : firstTo m (pairsTo l l.length) = firstM m l := rfl
   rw [e] at hSr ⊢
   cases hf : firstM m l with
   | none =>
    rw [hf] at hSr
    have q0 := (hSr.blk 0 rfl).1
    have HF := hid hf
    clear hf e
    go_wp2_with (first | (with_reducible refine wpList_ldS (n := 2) (us := #[.int .i64 0, .int .i64 0]) A_meet kR wU wU (by assumption) wU wU ?_) | ((with_reducible refine wpList_stoR (us := #[.int .i64 0, .int .i64 0]) 1 wU wU (hSr) wU kR wU wU ?_); intro w6 hS6))
    exact bodyPost_ret (results_cellSlot rfl rfl rfl A_meet kR (hS6.blk 1 rfl).1) rfl ⟨by rw [HF.out]; rfl, hS6.b⟩
   | some v =>
    rw [hf] at hSr
    have q0 := (hSr.blk 0 rfl).1
    have HF := hid hf
    clear hf e
    go_wp2_with (first | (with_reducible refine wpList_ldS (n := 2) (us := meC v) A_meet kR wU wU (by assumption) wU wU ?_) | ((with_reducible refine wpList_stoR (us := meC v) 1 wU wU (hSr) wU kR wU wU ?_); intro w6 hS6))
    exact bodyPost_ret (results_cellSlot rfl rfl rfl A_meet kR (hS6.blk 1 rfl).1) rfl ⟨by rw [HF.out]; rfl, hS6.b⟩
end Go.Proofs.YtdeoogbiipodmaaGreat

namespace Go.Proofs.YtdeoogbiipodmaaGreat
open Go.RowKit
set_option maxHeartbeats 8000000
set_option maxRecDepth 100000

noncomputable def meetsM (m : MacV) (l : List Int) (n : Int) : Bool := match firstM m l with
 | none => false
 | some x => decide ((x.1 : Int) ≤ n)
theorem meets_any (m : MacV) (ad al : Option Addr) (cap cl : Nat) (l : List Int) (n : Int) (w : World) (hR : Ints w ad cap m.sw) (hL : Ints w al cl l) (hg : m.gears ≤ 16) (hl : ∀ x ∈ l, 0 ≤ x ∧ x < 4 * m.gears) :
  Calls Tryz.prog 54 #[mV m ad cap, .slice al l.length cl, .int .i64 n] w fun r w' => r = .returned (.bool (meetsM m l n)) ∧ Below w.heap.size w w' := by
 have CF := fun w h1 h2 => firstB_any m ad al cap cl l w h1 h2 hg hl
 have hS := (SL.nil w).box (.cells (mC m ad cap) 24)
 have hdef : meetsM m l n = match firstM m l with | none => false | some x => decide ((x.1 : Int) ≤ n) := rfl
 rw [hdef]
 clear hdef
 cases hf : firstM m l with
 | none =>
  rw [hf] at CF
  have HF := hid CF
  clear CF hf
  go_enter Tryz.func54, Tryz.ntmps54
  go_wp2_with fail
  refine (HF.out _ (hR.below hS.b) (hL.below hS.b)).mono ?_
  rintro e w1 ⟨rfl, b1⟩
  have hS1 := (hS.mono b1).box (.cells #[.int .i64 0, .int .i64 0] 122)
  go_wp2_with ((with_reducible refine wpList_stoR (us := #[.int .i64 0, .int .i64 0]) 0 wU wU (hS1) wU kR wU wU ?_); intro w2 hS2)
  go_ret
  exact ⟨rfl, hS2.b⟩
 | some v =>
  rw [hf] at CF
  have HF := hid CF
  clear CF hf
  cases hd : decide ((v.1 : Int) ≤ n)
  all_goals
   go_enter Tryz.func54, Tryz.ntmps54
   go_wp2_with fail
   refine (HF.out _ (hR.below hS.b) (hL.below hS.b)).mono ?_
   rintro e w1 ⟨rfl, b1⟩
   have hS1 := (hS.mono b1).box (.cells #[.int .i64 0, .int .i64 0] 122)
   go_wp2_with (first | (((with_reducible refine wpList_stoR (us := meC v) 0 wU wU (hS1) wU kR wU wU ?_); intro w2 hS2); have q2 := (hS2.blk 0 rfl).1) | (with_reducible refine wpList_ldB F_int wU wU q2 wU ?_))
   go_ret
   exact ⟨by show _ = Ending.returned (.bool (decide ((v.1 : Int) ≤ n))); rw [hd]; rfl, hS2.b⟩

end Go.Proofs.YtdeoogbiipodmaaGreat

namespace Go.Proofs.YtdeoogbiipodmaaGreat
open Go.RowKit
set_option maxHeartbeats 8000000
set_option maxRecDepth 100000

def ChkM (m : MacV) (ad : Option Addr) (cap : Nat) : Prop := ∀ w, Ints w ad cap m.sw → Calls Tryz.prog 84 #[mV m ad cap] w fun r w' => r = .returned (.int .i64 (macE m)) ∧ Below w.heap.size w w'
/-- the error of a load. -/
def loadGo (m : MacV) : List Int → List Int → Int
 | _, [] => 0
 | pre, s :: r => if s < 0 ∨ 4 * m.gears ≤ s then 10 else if s ∈ pre then 9 else loadGo m (pre ++ [s]) r
def loadE (m : MacV) (l : List Int) : Int := if macE m ≠ 0 then macE m else if 4 * m.gears < l.length then 5 else loadGo m [] l
def ChkL (m : MacV) (ad : Option Addr) (cap : Nat) (al : Option Addr) (cl : Nat) (l : List Int) : Prop := ∀ w, Ints w ad cap m.sw → Ints w al cl l →
 Calls Tryz.prog 52 #[mV m ad cap, .slice al l.length cl] w fun r w' => r = .returned (.int .i64 (loadE m l)) ∧ Below w.heap.size w w'

end Go.Proofs.YtdeoogbiipodmaaGreat

namespace Go.Proofs.YtdeoogbiipodmaaGreat
open Go.RowKit
set_option maxHeartbeats 8000000
set_option maxRecDepth 100000

/-- the slots as an int, of any gears. -/
theorem slotsW_any (m : MacV) (ad : Option Addr) (cap : Nat) : ∃ z : Int, (0 ≤ m.gears → m.gears ≤ 16 → z = 4 * m.gears) ∧ ∀ w,
  Calls Tryz.prog 85 #[mV m ad cap] w fun r w' => r = .returned (.int .i64 z) ∧ Below w.heap.size w w' := by
 refine ⟨wrap64 (4 * m.gears), fun h0 h1 => IntWalk.wrap64_in _ (by omega), fun w => ?_⟩
 go_enter Tryz.func85, Tryz.ntmps85
 go_wp2_with fail
 go_ret
 exact ⟨rfl, bal (Below.refl _ _) _⟩

theorem loadGo_step (m : MacV) {l : List Int} {k : Nat} (h : k < l.length) : loadGo m (l.take k) (l.drop k) = if atD 0 l k < 0 ∨ 4 * m.gears ≤ atD 0 l k then 10 else if atD 0 l k ∈ l.take k then 9 else loadGo m (l.take (k + 1)) (l.drop (k + 1)) := by
 rw [take_snoc h]
 conv => lhs; rw [List.drop_eq_getElem_cons h]
 rw [loadGo]
 have e : atD 0 l k = l[k] := by simp [atD, h]
 rw [e]

theorem CheckLoad_any (m : MacV) (ad : Option Addr) (cap : Nat) (al : Option Addr) (cl : Nat) (l : List Int) (HK : ChkM m ad cap) : ChkL m ad cap al cl l := by
 intro w hR hL
 have hcap := hL.le
 have hmx := hL.max
 obtain ⟨z, hz, HZ⟩ := slotsW_any m ad cap
 have hS := (SL.nil w).box (.cells (mC m ad cap) 24)
 have q1 := (hS.blk 0 rfl).1
 have R1 := hR.below hS.b
 by_cases he : macE m = 0
 ·have hok := (macE_zero he).1
  have hlo := hok.lo
  have hhi := hok.hi
  have hz2 := hz (by omega) (by omega)
  subst hz2
  unfold ChkM at HK
  rw [he] at HK
  by_cases hb : 4 * m.gears < l.length
  ·have hv : loadE m l = 5 := by unfold loadE; rw [if_neg (by simp [he]), if_pos hb]
   have HV := hid hv
   have hbd : decide (4 * m.gears < (l.length : Int)) = true := decide_eq_true hb
   clear hv he hok hz hb
   go_enter Tryz.func52, Tryz.ntmps52
   go_wp2_with fail
   refine wp_region_qt 8 kR kR ?_
   simp only [List.take_succ_cons, List.take_zero, List.drop_succ_cons, List.drop_zero]
   repeat (first | ((with_reducible refine wpB_loadS (n := 4) (us := mC m ad cap) A_mach kR wU wU (by assumption) wU wU ?_); (try simp only [Act.put, pA, pB, pC])) | ((refine wpB_call (.int .i64 0) wU (fun w' => ?_) (fun w' hw' => HK w' (R1.below hw')) ?_); (focus (go_simp; done)); (try simp only [Act.put, pA, pB, pC])) | ((refine wpB_call (.int .i64 (4 * m.gears)) wU (fun w' => ?_) (fun w' hw' => HZ w') ?_); (focus (go_simp; done)); (try simp only [Act.put, pA, pB, pC])) | ((with_reducible refine wpB_when wU wU wU ?_); (try simp only [Act.put, pA, pB, pC])) |  ((with_reducible refine wpB_load (by first | exact F_int | fail) wU wU (by assumption) wU ?_); (try simp only [Act.put, pA, pB, pC])) | ((with_reducible refine wpB_loadS (n := 2) (us := #[_, _]) (by fail) kR wU wU (by assumption) wU wU ?_); (try simp only [Act.put, pA, pB, pC])) | ((with_reducible refine wpB_loadS (n := 4) (us := #[_, _, _, _]) (by fail) kR wU wU (by assumption) wU wU ?_); (try simp only [Act.put, pA, pB, pC])) | ((refine wpQ_oneG ?_ wU (fun w' => ?_) ?_); rotate_left; (go_simp; rfl); (try simp only [Act.put, pA, pB, pC])))
   refine wpQuiet_nil ?_
   intro w1 hb1
   have hS1 := hS.mono hb1
   go_wp2_with (go_at_call 51; refine (mfirst_any _ _ [_, _] _ (reps_newN cIntS [_, _] 2 rfl (by decide) _ _ (by simp) rfl)).mono ?_; rw [firstE_z, firstE_head (by decide)]; rintro e w' ⟨rfl, rfl⟩)
   go_ret
   exact ⟨by rw [HV.out]; rfl, bal hS1.b _⟩
  ·have hv : loadE m l = loadGo m [] l := by unfold loadE; rw [if_neg (by simp [he]), if_neg hb]
   have HV := hid hv
   have hbd : decide (4 * m.gears < (l.length : Int)) = false := decide_eq_false hb
   clear hv he hok hz hb
   go_enter Tryz.func52, Tryz.ntmps52
   go_wp2_with fail
   refine wp_region_qt 8 kR kR ?_
   simp only [List.take_succ_cons, List.take_zero, List.drop_succ_cons, List.drop_zero]
   repeat (first | ((with_reducible refine wpB_loadS (n := 4) (us := mC m ad cap) A_mach kR wU wU (by assumption) wU wU ?_); (try simp only [Act.put, pA, pB, pC])) | ((refine wpB_call (.int .i64 0) wU (fun w' => ?_) (fun w' hw' => HK w' (R1.below hw')) ?_); (focus (go_simp; done)); (try simp only [Act.put, pA, pB, pC])) | ((refine wpB_call (.int .i64 (4 * m.gears)) wU (fun w' => ?_) (fun w' hw' => HZ w') ?_); (focus (go_simp; done)); (try simp only [Act.put, pA, pB, pC])) | ((with_reducible refine wpB_when wU wU wU ?_); (try simp only [Act.put, pA, pB, pC])) |  ((with_reducible refine wpB_load (by first | exact F_int | fail) wU wU (by assumption) wU ?_); (try simp only [Act.put, pA, pB, pC])) | ((with_reducible refine wpB_loadS (n := 2) (us := #[_, _]) (by fail) kR wU wU (by assumption) wU wU ?_); (try simp only [Act.put, pA, pB, pC])) | ((with_reducible refine wpB_loadS (n := 4) (us := #[_, _, _, _]) (by fail) kR wU wU (by assumption) wU wU ?_); (try simp only [Act.put, pA, pB, pC])) | ((refine wpQ_oneG ?_ wU (fun w' => ?_) ?_); rotate_left; (go_simp; rfl); (try simp only [Act.put, pA, pB, pC])))
   refine wpQuiet_nil ?_
   intro w1 hb1
   have hS1 := hS.mono hb1
   go_wp2_with (go_at_call 51; refine (mfirst_any _ _ [_, _] _ (reps_newN cIntS [_, _] 2 rfl (by decide) _ _ (by simp) rfl)).mono ?_; rw [firstE_z, firstE_z, firstE_nil]; rintro e w' ⟨rfl, rfl⟩)
   have hS2 := hS1.al (.cells #[.int .i64 0, .int .i64 0] 28)
   clear hS hS1 q1 R1 hb1
   go_loopw [24] (fun i wr => ∃ k : Nat, k ≤ l.length ∧ i = .int .i64 k ∧ loadGo m (l.take k) (l.drop k) = loadGo m [] l ∧ SL w.heap.size w wr [pBlk w.heap.size (.cells (mC m ad cap) 24)]) (fun i _ => l.length - (intOf i).toNat)
   case atStart => exact ⟨0, by omega, rfl, rfl, hS2⟩
   case round =>
    clear hS2
    obtain ⟨k, hk, rfl, hgo, hSr⟩ := hrel
    have hLr := hL.below hSr.b
    by_cases hlt : k < l.length
    ·have hst := loadGo_step m hlt
     rw [hgo] at hst
     obtain ⟨x, hx⟩ : ∃ x, x = atD 0 l k := ⟨_, rfl⟩
     rw [← hx] at hst
     have HX := hid hx
     clear hx hgo
     have hkcl : k ≤ cl := by omega
     have hLk := intsTake hLr (m := k) (by omega)
     have hkl : (l.take k).length = k := by simp; omega
     have CC := fun w h => sContains_any al cl (l.take k) x w h
     rw [hkl] at CC
     clear hkl
     have q1 := (hSr.blk 0 rfl).1
     by_cases c1 : x < 0
     ·have d1 : decide (x < 0) = true := decide_eq_true c1
      rw [if_pos (.inl c1)] at hst
      have HST := hid hst
      clear hst
      cases hc : (l.take k).contains x
      all_goals
       rw [hc] at CC
       have HC := hid CC
       clear CC hc
      ·go_wp2_with ((with_reducible refine wpList_idx _ 0 E_ints F_int cInt1 wU wU (hLr) oD oD (fun _ => wU) (fun _ => ?_)); rw [← HX.out])
       refine wp_region_qt 15 kR kR ?_
       simp only [List.take_succ_cons, List.take_zero, List.drop_succ_cons, List.drop_zero]
       repeat (first | ((with_reducible refine wpB_loadS (n := 4) (us := mC m ad cap) A_mach kR wU wU (by assumption) wU wU ?_); (try simp only [Act.put, pA, pB, pC])) | ((refine wpB_call (.int .i64 (4 * m.gears)) wU (fun w' => ?_) (fun w' hw' => HZ w') ?_); (focus (go_simp; done)); (try simp only [Act.put, pA, pB, pC])) | ((refine wpB_call (.bool false) wU (fun w' => ?_) (fun w' hw' => calls_below (HC.out w' (hLk.below hw'))) ?_); (focus (go_simp; done)); (try simp only [Act.put, pA, pB, pC])) | ((with_reducible refine wpB_when wU wU wU ?_); (try simp only [Act.put, pA, pB, pC])) | ((with_reducible refine wpQ_skip wU ?_); (try simp only [Act.put, pA, pB, pC])) |  ((with_reducible refine wpB_load (by first | exact F_int | fail) wU wU (by assumption) wU ?_); (try simp only [Act.put, pA, pB, pC])) | ((with_reducible refine wpB_loadS (n := 2) (us := #[_, _]) (by fail) kR wU wU (by assumption) wU wU ?_); (try simp only [Act.put, pA, pB, pC])) | ((with_reducible refine wpB_loadS (n := 4) (us := #[_, _, _, _]) (by fail) kR wU wU (by assumption) wU wU ?_); (try simp only [Act.put, pA, pB, pC])) | ((refine wpQ_oneG ?_ wU (fun w' => ?_) ?_); rotate_left; (go_simp; rfl); (try simp only [Act.put, pA, pB, pC])))
       refine wpQuiet_nil ?_
       intro w4 hb4
       have hS4 := hSr.mono hb4
       go_wp2_with (go_at_call 51; refine (mfirst_any _ _ [_, _] _ (reps_newN cIntS [_, _] 2 rfl (by decide) _ _ (by simp) rfl)).mono ?_; rw [firstE_head (by decide)]; rintro e w' ⟨rfl, rfl⟩)
       go_ret
       exact ⟨by rw [HV.out, HST.out]; rfl, bal hS4.b _⟩
      ·go_wp2_with ((with_reducible refine wpList_idx _ 0 E_ints F_int cInt1 wU wU (hLr) oD oD (fun _ => wU) (fun _ => ?_)); rw [← HX.out])
       refine wp_region_qt 15 kR kR ?_
       simp only [List.take_succ_cons, List.take_zero, List.drop_succ_cons, List.drop_zero]
       repeat (first | ((with_reducible refine wpB_loadS (n := 4) (us := mC m ad cap) A_mach kR wU wU (by assumption) wU wU ?_); (try simp only [Act.put, pA, pB, pC])) | ((refine wpB_call (.int .i64 (4 * m.gears)) wU (fun w' => ?_) (fun w' hw' => HZ w') ?_); (focus (go_simp; done)); (try simp only [Act.put, pA, pB, pC])) | ((refine wpB_call (.bool true) wU (fun w' => ?_) (fun w' hw' => calls_below (HC.out w' (hLk.below hw'))) ?_); (focus (go_simp; done)); (try simp only [Act.put, pA, pB, pC])) | ((with_reducible refine wpB_when wU wU wU ?_); (try simp only [Act.put, pA, pB, pC])) | ((with_reducible refine wpQ_skip wU ?_); (try simp only [Act.put, pA, pB, pC])) |  ((with_reducible refine wpB_load (by first | exact F_int | fail) wU wU (by assumption) wU ?_); (try simp only [Act.put, pA, pB, pC])) | ((with_reducible refine wpB_loadS (n := 2) (us := #[_, _]) (by fail) kR wU wU (by assumption) wU wU ?_); (try simp only [Act.put, pA, pB, pC])) | ((with_reducible refine wpB_loadS (n := 4) (us := #[_, _, _, _]) (by fail) kR wU wU (by assumption) wU wU ?_); (try simp only [Act.put, pA, pB, pC])) | ((refine wpQ_oneG ?_ wU (fun w' => ?_) ?_); rotate_left; (go_simp; rfl); (try simp only [Act.put, pA, pB, pC])))
       refine wpQuiet_nil ?_
       intro w4 hb4
       have hS4 := hSr.mono hb4
       go_wp2_with (go_at_call 51; refine (mfirst_any _ _ [_, _] _ (reps_newN cIntS [_, _] 2 rfl (by decide) _ _ (by simp) rfl)).mono ?_; rw [firstE_head (by decide)]; rintro e w' ⟨rfl, rfl⟩)
       go_ret
       exact ⟨by rw [HV.out, HST.out]; rfl, bal hS4.b _⟩
     have d1 : decide (x < 0) = false := decide_eq_false c1
     by_cases c2 : 4 * m.gears ≤ x
     ·have d2 : decide (4 * m.gears ≤ x) = true := decide_eq_true c2
      rw [if_pos (.inr c2)] at hst
      have HST := hid hst
      clear hst
      cases hc : (l.take k).contains x
      all_goals
       rw [hc] at CC
       have HC := hid CC
       clear CC hc
      ·go_wp2_with ((with_reducible refine wpList_idx _ 0 E_ints F_int cInt1 wU wU (hLr) oD oD (fun _ => wU) (fun _ => ?_)); rw [← HX.out])
       refine wp_region_qt 15 kR kR ?_
       simp only [List.take_succ_cons, List.take_zero, List.drop_succ_cons, List.drop_zero]
       repeat (first | ((with_reducible refine wpB_loadS (n := 4) (us := mC m ad cap) A_mach kR wU wU (by assumption) wU wU ?_); (try simp only [Act.put, pA, pB, pC])) | ((refine wpB_call (.int .i64 (4 * m.gears)) wU (fun w' => ?_) (fun w' hw' => HZ w') ?_); (focus (go_simp; done)); (try simp only [Act.put, pA, pB, pC])) | ((refine wpB_call (.bool false) wU (fun w' => ?_) (fun w' hw' => calls_below (HC.out w' (hLk.below hw'))) ?_); (focus (go_simp; done)); (try simp only [Act.put, pA, pB, pC])) | ((with_reducible refine wpB_when wU wU wU ?_); (try simp only [Act.put, pA, pB, pC])) | ((with_reducible refine wpQ_skip wU ?_); (try simp only [Act.put, pA, pB, pC])) |  ((with_reducible refine wpB_load (by first | exact F_int | fail) wU wU (by assumption) wU ?_); (try simp only [Act.put, pA, pB, pC])) | ((with_reducible refine wpB_loadS (n := 2) (us := #[_, _]) (by fail) kR wU wU (by assumption) wU wU ?_); (try simp only [Act.put, pA, pB, pC])) | ((with_reducible refine wpB_loadS (n := 4) (us := #[_, _, _, _]) (by fail) kR wU wU (by assumption) wU wU ?_); (try simp only [Act.put, pA, pB, pC])) | ((refine wpQ_oneG ?_ wU (fun w' => ?_) ?_); rotate_left; (go_simp; rfl); (try simp only [Act.put, pA, pB, pC])))
       refine wpQuiet_nil ?_
       intro w4 hb4
       have hS4 := hSr.mono hb4
       go_wp2_with (go_at_call 51; refine (mfirst_any _ _ [_, _] _ (reps_newN cIntS [_, _] 2 rfl (by decide) _ _ (by simp) rfl)).mono ?_; rw [firstE_head (by decide)]; rintro e w' ⟨rfl, rfl⟩)
       go_ret
       exact ⟨by rw [HV.out, HST.out]; rfl, bal hS4.b _⟩
      ·go_wp2_with ((with_reducible refine wpList_idx _ 0 E_ints F_int cInt1 wU wU (hLr) oD oD (fun _ => wU) (fun _ => ?_)); rw [← HX.out])
       refine wp_region_qt 15 kR kR ?_
       simp only [List.take_succ_cons, List.take_zero, List.drop_succ_cons, List.drop_zero]
       repeat (first | ((with_reducible refine wpB_loadS (n := 4) (us := mC m ad cap) A_mach kR wU wU (by assumption) wU wU ?_); (try simp only [Act.put, pA, pB, pC])) | ((refine wpB_call (.int .i64 (4 * m.gears)) wU (fun w' => ?_) (fun w' hw' => HZ w') ?_); (focus (go_simp; done)); (try simp only [Act.put, pA, pB, pC])) | ((refine wpB_call (.bool true) wU (fun w' => ?_) (fun w' hw' => calls_below (HC.out w' (hLk.below hw'))) ?_); (focus (go_simp; done)); (try simp only [Act.put, pA, pB, pC])) | ((with_reducible refine wpB_when wU wU wU ?_); (try simp only [Act.put, pA, pB, pC])) | ((with_reducible refine wpQ_skip wU ?_); (try simp only [Act.put, pA, pB, pC])) |  ((with_reducible refine wpB_load (by first | exact F_int | fail) wU wU (by assumption) wU ?_); (try simp only [Act.put, pA, pB, pC])) | ((with_reducible refine wpB_loadS (n := 2) (us := #[_, _]) (by fail) kR wU wU (by assumption) wU wU ?_); (try simp only [Act.put, pA, pB, pC])) | ((with_reducible refine wpB_loadS (n := 4) (us := #[_, _, _, _]) (by fail) kR wU wU (by assumption) wU wU ?_); (try simp only [Act.put, pA, pB, pC])) | ((refine wpQ_oneG ?_ wU (fun w' => ?_) ?_); rotate_left; (go_simp; rfl); (try simp only [Act.put, pA, pB, pC])))
       refine wpQuiet_nil ?_
       intro w4 hb4
       have hS4 := hSr.mono hb4
       go_wp2_with (go_at_call 51; refine (mfirst_any _ _ [_, _] _ (reps_newN cIntS [_, _] 2 rfl (by decide) _ _ (by simp) rfl)).mono ?_; rw [firstE_head (by decide)]; rintro e w' ⟨rfl, rfl⟩)
       go_ret
       exact ⟨by rw [HV.out, HST.out]; rfl, bal hS4.b _⟩
     have d2 : decide (4 * m.gears ≤ x) = false := decide_eq_false c2
     rw [if_neg (by omega)] at hst
     by_cases c3 : x ∈ l.take k
     ·have hc : (l.take k).contains x = true := by simpa using c3
      rw [if_pos c3] at hst
      rw [hc] at CC
      have HC := hid CC; have HST := hid hst
      clear CC hc c3 hst
      go_wp2_with ((with_reducible refine wpList_idx _ 0 E_ints F_int cInt1 wU wU (hLr) oD oD (fun _ => wU) (fun _ => ?_)); rw [← HX.out])
      refine wp_region_qt 15 kR kR ?_
      simp only [List.take_succ_cons, List.take_zero, List.drop_succ_cons, List.drop_zero]
      repeat (first | ((with_reducible refine wpB_loadS (n := 4) (us := mC m ad cap) A_mach kR wU wU (by assumption) wU wU ?_); (try simp only [Act.put, pA, pB, pC])) | ((refine wpB_call (.int .i64 (4 * m.gears)) wU (fun w' => ?_) (fun w' hw' => HZ w') ?_); (focus (go_simp; done)); (try simp only [Act.put, pA, pB, pC])) | ((refine wpB_call (.bool true) wU (fun w' => ?_) (fun w' hw' => calls_below (HC.out w' (hLk.below hw'))) ?_); (focus (go_simp; done)); (try simp only [Act.put, pA, pB, pC])) | ((with_reducible refine wpB_when wU wU wU ?_); (try simp only [Act.put, pA, pB, pC])) | ((with_reducible refine wpQ_skip wU ?_); (try simp only [Act.put, pA, pB, pC])) |  ((with_reducible refine wpB_load (by first | exact F_int | fail) wU wU (by assumption) wU ?_); (try simp only [Act.put, pA, pB, pC])) | ((with_reducible refine wpB_loadS (n := 2) (us := #[_, _]) (by fail) kR wU wU (by assumption) wU wU ?_); (try simp only [Act.put, pA, pB, pC])) | ((with_reducible refine wpB_loadS (n := 4) (us := #[_, _, _, _]) (by fail) kR wU wU (by assumption) wU wU ?_); (try simp only [Act.put, pA, pB, pC])) | ((refine wpQ_oneG ?_ wU (fun w' => ?_) ?_); rotate_left; (go_simp; rfl); (try simp only [Act.put, pA, pB, pC])))
      refine wpQuiet_nil ?_
      intro w4 hb4
      have hS4 := hSr.mono hb4
      go_wp2_with (go_at_call 51; refine (mfirst_any _ _ [_, _] _ (reps_newN cIntS [_, _] 2 rfl (by decide) _ _ (by simp) rfl)).mono ?_; rw [firstE_z, firstE_head (by decide)]; rintro e w' ⟨rfl, rfl⟩)
      go_ret
      exact ⟨by rw [HV.out, HST.out]; rfl, bal hS4.b _⟩
     ·have hc : (l.take k).contains x = false := by simpa using c3
      rw [if_neg c3] at hst
      rw [hc] at CC
      have HC := hid CC; have HST := hid hst
      clear CC hc c3 hst
      go_wp2_with ((with_reducible refine wpList_idx _ 0 E_ints F_int cInt1 wU wU (hLr) oD oD (fun _ => wU) (fun _ => ?_)); rw [← HX.out])
      refine wp_region_qt 15 kR kR ?_
      simp only [List.take_succ_cons, List.take_zero, List.drop_succ_cons, List.drop_zero]
      repeat (first | ((with_reducible refine wpB_loadS (n := 4) (us := mC m ad cap) A_mach kR wU wU (by assumption) wU wU ?_); (try simp only [Act.put, pA, pB, pC])) | ((refine wpB_call (.int .i64 (4 * m.gears)) wU (fun w' => ?_) (fun w' hw' => HZ w') ?_); (focus (go_simp; done)); (try simp only [Act.put, pA, pB, pC])) | ((refine wpB_call (.bool false) wU (fun w' => ?_) (fun w' hw' => calls_below (HC.out w' (hLk.below hw'))) ?_); (focus (go_simp; done)); (try simp only [Act.put, pA, pB, pC])) | ((with_reducible refine wpB_when wU wU wU ?_); (try simp only [Act.put, pA, pB, pC])) | ((with_reducible refine wpQ_skip wU ?_); (try simp only [Act.put, pA, pB, pC])) |  ((with_reducible refine wpB_load (by first | exact F_int | fail) wU wU (by assumption) wU ?_); (try simp only [Act.put, pA, pB, pC])) | ((with_reducible refine wpB_loadS (n := 2) (us := #[_, _]) (by fail) kR wU wU (by assumption) wU wU ?_); (try simp only [Act.put, pA, pB, pC])) | ((with_reducible refine wpB_loadS (n := 4) (us := #[_, _, _, _]) (by fail) kR wU wU (by assumption) wU wU ?_); (try simp only [Act.put, pA, pB, pC])) | ((refine wpQ_oneG ?_ wU (fun w' => ?_) ?_); rotate_left; (go_simp; rfl); (try simp only [Act.put, pA, pB, pC])))
      refine wpQuiet_nil ?_
      intro w4 hb4
      have hS4 := hSr.mono hb4
      go_wp2_with (go_at_call 51; refine (mfirst_any _ _ [_, _] _ (reps_newN cIntS [_, _] 2 rfl (by decide) _ _ (by simp) rfl)).mono ?_; rw [firstE_z, firstE_z, firstE_nil]; rintro e w' ⟨rfl, rfl⟩)
      exact ⟨⟨k + 1, by omega, by go_num, HST.out.symm, hS4.al _⟩, by simp [intOf]; omega⟩
    ·have hkk : k = l.length := by omega
     subst hkk
     have e : loadGo m (l.take l.length) (l.drop l.length) = 0 := by rw [List.drop_length]; rfl
     rw [e] at hgo
     have HG := hid hgo
     clear hgo e
     go_wp2_with fail
     go_ret
     exact ⟨by rw [HV.out, ← HG.out]; rfl, hSr.b⟩
 ·have hv : loadE m l = macE m := by unfold loadE; rw [if_pos he]
  unfold ChkM at HK
  obtain ⟨E, hE⟩ : ∃ E, E = macE m := ⟨_, rfl⟩
  rw [← hE] at HK hv he
  have HV := hid hv
  have hne : (E != 0) = true := by simpa using he
  clear hv hE hz
  cases hb : decide (z < (l.length : Int))
  all_goals
   go_enter Tryz.func52, Tryz.ntmps52
   go_wp2_with fail
   refine wp_region_qt 8 kR kR ?_
   simp only [List.take_succ_cons, List.take_zero, List.drop_succ_cons, List.drop_zero]
   repeat (first | ((with_reducible refine wpB_loadS (n := 4) (us := mC m ad cap) A_mach kR wU wU (by assumption) wU wU ?_); (try simp only [Act.put, pA, pB, pC])) | ((refine wpB_call (.int .i64 E) wU (fun w' => ?_) (fun w' hw' => HK w' (R1.below hw')) ?_); (focus (go_simp; done)); (try simp only [Act.put, pA, pB, pC])) | ((refine wpB_call (.int .i64 z) wU (fun w' => ?_) (fun w' hw' => HZ w') ?_); (focus (go_simp; done)); (try simp only [Act.put, pA, pB, pC])) | ((with_reducible refine wpB_when wU wU wU ?_); (try simp only [Act.put, pA, pB, pC])) |  ((with_reducible refine wpB_load (by first | exact F_int | fail) wU wU (by assumption) wU ?_); (try simp only [Act.put, pA, pB, pC])) | ((with_reducible refine wpB_loadS (n := 2) (us := #[_, _]) (by fail) kR wU wU (by assumption) wU wU ?_); (try simp only [Act.put, pA, pB, pC])) | ((with_reducible refine wpB_loadS (n := 4) (us := #[_, _, _, _]) (by fail) kR wU wU (by assumption) wU wU ?_); (try simp only [Act.put, pA, pB, pC])) | ((refine wpQ_oneG ?_ wU (fun w' => ?_) ?_); rotate_left; (go_simp; rfl); (try simp only [Act.put, pA, pB, pC])))
   refine wpQuiet_nil ?_
   intro w1 hb1
   have hS1 := hS.mono hb1
   go_wp2_with (go_at_call 51; refine (mfirst_any _ _ [_, _] _ (reps_newN cIntS [_, _] 2 rfl (by decide) _ _ (by simp) rfl)).mono ?_; rw [firstE_head he]; rintro e w' ⟨rfl, rfl⟩)
   go_ret
   exact ⟨by rw [HV.out]; rfl, bal hS1.b _⟩
end Go.Proofs.YtdeoogbiipodmaaGreat

namespace Go.Proofs.YtdeoogbiipodmaaGreat
open Go.RowKit
set_option maxHeartbeats 8000000
set_option maxRecDepth 100000

theorem loadGo_zero (m : MacV) : ∀ (l pre : List Int), pre.Nodup → loadGo m pre l = 0 → (∀ x ∈ l, 0 ≤ x ∧ x < 4 * m.gears) ∧ (pre ++ l).Nodup
 | [], pre, hp, _ => ⟨fun x hx => absurd hx (by simp), by simpa using hp⟩
 | s :: r, pre, hp, h => by
   rw [loadGo] at h
   split at h
   · omega
   · rename_i h1
     split at h
     · omega
     · rename_i h2
       have hp2 : (pre ++ [s]).Nodup := by
         rw [List.nodup_append]
         refine ⟨hp, by simp, ?_⟩
         intro a ha b hb e
         simp at hb
         subst hb; subst e
         exact h2 ha
       obtain ⟨k1, k2⟩ := loadGo_zero m r (pre ++ [s]) hp2 h
       refine ⟨fun x hx => ?_, by simpa using k2⟩
       rcases List.mem_cons.1 hx with rfl | hx
       · omega
       · exact k1 x hx
structure LoadOk (m : MacV) (l : List Int) : Prop where
 mac : macE m = 0
 ok : MacOk m
 few : l.length ≤ 4 * m.gears
 rng : ∀ x ∈ l, 0 ≤ x ∧ x < 4 * m.gears
 nodup : l.Nodup
theorem loadE_zero {m : MacV} {l : List Int} (h : loadE m l = 0) : LoadOk m l := by
 unfold loadE at h
 split at h
 ·rename_i h1; exact absurd h h1
 ·rename_i h1
  split at h
  ·omega
  ·have h3 : macE m = 0 := by simpa using h1
   obtain ⟨a, b⟩ := loadGo_zero m l [] List.nodup_nil h
   exact ⟨h3, (macE_zero h3).1, by omega, a, by simpa using b⟩
end Go.Proofs.YtdeoogbiipodmaaGreat

namespace Go.Proofs.YtdeoogbiipodmaaGreat
open Go.RowKit
set_option maxHeartbeats 8000000
set_option maxRecDepth 100000

/-- mapped with a function of the program, of which the places are given. -/
theorem mappedN_any (rv : Value) (g : Int → Int) (al : Option Addr) (cl : Nat) (l : List Int) (w : World) (hL : Ints w al cl l) (hn : l.length ≤ 1048576)
  (HF : ∀ x ∈ l, ∀ w', Below w.heap.size w w' → Calls Tryz.prog 25 #[rv, .int .i64 x] w' fun r w'' => r = .returned (.int .i64 (g x)) ∧ Below w'.heap.size w' w'') :
  Calls Tryz.prog 24 #[.slice al l.length cl, .func (.func 25) #[rv] #[]] w fun r w' => ∃ v, r = .returned v ∧ OwnI w.heap.size w' v (l.map g) ∧ Below w.heap.size w w' := by
 have hcap := hL.le
 have hmx := hL.max
 have H := hid HF
 clear HF
 have hS := (SL.nil w).nilS (α := Int) (e := 3) cIntS
 go_enter Tryz.func24, Tryz.ntmps24
 go_wp2_with fail
 go_loopw [5, 10] (fun v i wr => ∃ k : Nat, k ≤ l.length ∧ i = .int .i64 k ∧ SL w.heap.size w wr [pOwn cInt 1 3 v ((l.take k).map g)]) (fun _ i _ => l.length - (intOf i).toNat)
 case atStart => exact ⟨0, by omega, rfl, hS⟩
 case round =>
  clear hS
  obtain ⟨k, hk, rfl, hSr⟩ := hrel
  have hLr := hL.below hSr.b
  by_cases hlt : k < l.length
  ·have hmem := atD_mem hlt
   have ht := take_snoc hlt
   have hlen : ((l.take k).map g).length ≤ 1048576 := by simp; omega
   obtain ⟨x, hx⟩ : ∃ x, x = atD 0 l k := ⟨_, rfl⟩
   rw [← hx] at hmem ht
   have HX := hid hx; have HT := hid ht
   clear hx ht
   go_wp2_with ((with_reducible refine wpList_idx _ 0 E_ints F_int cInt1 wU wU (hLr) oD oD (fun _ => wU) (fun _ => ?_)); rw [← HX.out])
   refine (H.out x hmem _ hSr.b).mono ?_
   rintro e w1 ⟨rfl, b1⟩
   have hS1 := hSr.mono b1
   go_wp2_with ((with_reducible refine wpList_pushL (y := (g x)) 0 E_ints wU wU (hS1) wU cIntO ⟨rfl, rfl⟩ (by first | with_unfolding_all rfl | simp) wU (by first | omega | (simp; omega)) (by first | omega | (simp; omega)) ?_); intro v2 w2 hS2)
   exact ⟨⟨k + 1, by omega, by go_num, by rw [HT.out, List.map_append]; exact hS2⟩, by simp [intOf]; omega⟩
  ·have hkk : k = l.length := by omega
   subst hkk
   rw [List.take_length] at hSr
   go_wp2_with fail
   go_ret
   exact ⟨_, rfl, hSr.own 0 rfl, hSr.b⟩

end Go.Proofs.YtdeoogbiipodmaaGreat

namespace Go.Proofs.YtdeoogbiipodmaaGreat
open Go.RowKit
set_option maxHeartbeats 8000000
set_option maxRecDepth 100000

def noM : MacV := ⟨false, 0, 0, []⟩
end Go.Proofs.YtdeoogbiipodmaaGreat

namespace Go.Proofs.YtdeoogbiipodmaaGreat
open Go.RowKit
set_option maxHeartbeats 8000000
set_option maxRecDepth 100000
section
variable {B : Nat} {w0 w : World}
/-- a piece takes the place of another one. -/
theorem SL.replace {A R : List Pc} {p : Pc} (h : SL B w0 w (p :: (A ++ R))) (k : Nat) (hk : k < R.length) : SL B w0 w (A ++ R.set k p) := by
 refine h.pick ((List.range A.length).map (fun j => j + 1) ++ (List.range R.length).map (fun j => if j = k then 0 else A.length + 1 + j)) ?_ _ ?_
 ·rw [List.nodup_append]
  refine ⟨?_, ?_, ?_⟩
  ·exact List.pairwise_map.2 (List.nodup_range.imp fun h e => h (by omega))
  ·exact List.pairwise_map.2 (List.nodup_range.imp fun h e => h (by split at e <;> split at e <;> omega))
  ·intro a ha b hb e
   obtain ⟨x, hx, rfl⟩ := List.mem_map.1 ha
   obtain ⟨y, hy, rfl⟩ := List.mem_map.1 hb
   have := List.mem_range.1 hx
   split at e <;> omega
 ·rw [List.map_append, List.map_append, List.map_map, List.map_map]
  congr 1
  ·refine List.ext_getElem? fun i => ?_
   rw [List.getElem?_map, List.getElem?_map]
   by_cases hi : i < A.length
   ·rw [List.getElem?_range hi]
    simp only [Option.map_some, Function.comp]
    rw [List.getElem?_cons_succ, List.getElem?_append_left hi, List.getElem?_eq_getElem hi]
    rfl
   ·rw [List.getElem?_eq_none (by simp; omega), List.getElem?_eq_none (by omega)]; rfl
  ·refine List.ext_getElem? fun i => ?_
   rw [List.getElem?_map, List.getElem?_map]
   by_cases hi : i < R.length
   ·rw [List.getElem?_range hi, List.getElem?_set]
    simp only [Option.map_some, Function.comp]
    by_cases e : i = k
    ·rw [if_pos e, if_pos e.symm, if_pos (by omega)]
     rfl
    ·rw [if_neg e, if_neg (fun h => e h.symm), show A.length + 1 + i = (A.length + i) + 1 by omega, List.getElem?_cons_succ, List.getElem?_append_right (by omega), Nat.add_sub_cancel_left, List.getElem?_eq_getElem hi]
     rfl
   ·rw [List.getElem?_eq_none (by simp; omega), List.getElem?_eq_none (by simp; omega)]; rfl
/-- a row of an owned list of lists. -/
theorem fx_row {pre : List Pc} {H : List SlH} {X : List (List Int)} {n : Nat} (h : SL B w0 w (pre ++ (mxQ H X).map inP)) (hH : H.length = X.length) (hX : ∀ r ∈ X, r.length = n) {k : Nat} (hk : k < X.length) :
  ∃ a c, atD ((none, 0, 0) : SlH) H (k : Int) = (a, n, c) ∧ Ints w a c (nth X k) := by
 have haH : k < H.length := by omega
 have eH : atD ((none, 0, 0) : SlH) H (k : Int) = H[k] := by simp [atD, haH]
 have eM : nth X k = X[k] := by simp [nth, atD, hk]
 have hi : (pre ++ (mxQ H X).map inP)[pre.length + k]? = some (pOwn cInt 1 3 (cSl H[k]) X[k]) := by
  rw [List.getElem?_append_right (by omega), Nat.add_sub_cancel_left, List.getElem?_map]
  unfold mxQ
  rw [List.getElem?_eq_getElem (by rw [List.length_zip]; omega), List.getElem_zip]
  rfl
 obtain ⟨ad, c, e1, hR⟩ := h.slice _ hi
 have hrl : (X[k]).length = n := hX _ (List.getElem_mem _)
 have e2 : H[k] = (ad, n, c) := by
  generalize H[k] = q at e1 ⊢
  obtain ⟨x1, x2, x3⟩ := q
  simp only [cSl, Value.slice.injEq] at e1
  obtain ⟨rfl, rfl, rfl⟩ := e1
  rw [hrl]
 exact ⟨ad, c, by rw [eH, e2], by rw [eM]; exact hR⟩
/-- the pieces of the factors: the box, the handles, the rows. -/
def PL (Bx G m cp : Nat) (H : List SlH) (X : List (List Int)) : List Pc := [pBlk Bx (.cells #[.slice (some ⟨G, 0, none⟩) m cp] 103), pOwn cSl 1 67 (.slice (some ⟨G, 0, none⟩) m cp) H] ++ (mxQ H X).map inP
theorem zip_set2 : ∀ (H : List SlH) (M : List (List Int)) (i : Nat) (x : SlH) (v : List Int), (H.set i x).zip (M.set i v) = (H.zip M).set i (x, v)
 | [], _, _, _, _ => by simp
 | x :: H, [], i, _, v => by cases i <;> simp
 | x :: H, m :: M, 0, _, v => rfl
 | x :: H, m :: M, i + 1, y, v => by
   simp only [List.set_cons_succ, List.zip_cons_cons]
   rw [zip_set2 H M i y v]
/-- two rows are new. -/
theorem pull_pieces {Bx G m cp : Nat} {H : List SlH} {X : List (List Int)} {k : Nat} {x1 x2 : SlH} {r1 r2 : List Int} (hH : H.length = X.length) (hk : k + 1 < X.length)
  (h : SL B w0 w (pOwn cInt 1 3 (cSl x2) r2 :: ([pOwn cInt 1 3 (cSl x1) r1, pBlk Bx (.cells #[.slice (some ⟨G, 0, none⟩) m cp] 103), pOwn cSl 1 67 (.slice (some ⟨G, 0, none⟩) m cp) ((H.set k x1).set (k + 1) x2)] ++ (mxQ H X).map inP))) :
  SL B w0 w (PL Bx G m cp ((H.set k x1).set (k + 1) x2) ((X.set k r1).set (k + 1) r2)) := by
 have hl : ((mxQ H X).map inP).length = X.length := by unfold mxQ; rw [List.length_map, List.length_zip]; omega
 have h1 := h.replace (k + 1) (by omega)
 have h2 : SL B w0 w (pOwn cInt 1 3 (cSl x1) r1 :: ([pBlk Bx (.cells #[.slice (some ⟨G, 0, none⟩) m cp] 103), pOwn cSl 1 67 (.slice (some ⟨G, 0, none⟩) m cp) ((H.set k x1).set (k + 1) x2)] ++ ((mxQ H X).map inP).set (k + 1) (pOwn cInt 1 3 (cSl x2) r2))) := h1
 have h3 := h2.replace k (by rw [List.length_set]; omega)
 have e : (mxQ ((H.set k x1).set (k + 1) x2) ((X.set k r1).set (k + 1) r2)).map inP = (((mxQ H X).map inP).set (k + 1) (pOwn cInt 1 3 (cSl x2) r2)).set k (pOwn cInt 1 3 (cSl x1) r1) := by
  unfold mxQ
  rw [zip_set2, zip_set2, List.map_set, List.map_set, List.set_comm _ _ (by omega)]
  rfl
 unfold PL
 rw [e]
 exact h3
end
theorem sto_smp (u : SlH) (w : World) (p : Addr) (h1 : (w.cell? p).isSome = true) (h2 : w.frozen? p = false) : (Instr.storeAt 67 (.pointer (some p)) (cSl u)).run Tryz.prog w = .ok () (w.setCell p (cSl u)) := by
 obtain ⟨v, hv⟩ := Option.isSome_iff_exists.1 h1
 simp [go_sem, hv, h2]
theorem get_mapS {l : List SlH} {k : Nat} {x : SlH} (h1 : k < l.length) (e : atD ((none, 0, 0) : SlH) l (k : Int) = x) : l[k]?.map cSl = some (cSl x) := by
 rw [← e]
 simp [atD, h1]
theorem push1_any {B : Nat} {w0 w : World} {Bx G m cp n : Nat} {H : List SlH} {X : List (List Int)} (hS : SL B w0 w (PL Bx G m cp H X)) (hH : H.length = m) (hX : X.length = m) (hv : ∀ x ∈ X, VP n x) (hn1 : 1 ≤ n) (hn : n ≤ 1000) (hm : m ≤ 1000) (k : Nat) (hk : k + 1 < m) :
  Calls Tryz.prog 94 #[.int .i64 k, .pointer (some ⟨Bx, 0, none⟩)] w fun r w' => (folP n (nth X k) (nth X (k + 1)) = none → r = .returned (.bool false) ∧ SL B w0 w' (PL Bx G m cp H X)) ∧
   (∀ i, folP n (nth X k) (nth X (k + 1)) = some i → r = .returned (.bool true) ∧ ∃ H', H'.length = m ∧ SL B w0 w' (PL Bx G m cp H' (pullX X k i))) := by
 unfold PL at hS
 have hHX : H.length = X.length := by omega
 have hrl : ∀ r ∈ X, r.length = n := fun r hr => (hv r hr).2
 obtain ⟨a1, c1, eH1, hR1⟩ := fx_row hS hHX hrl (k := k) (by omega)
 obtain ⟨a2, c2, eH2, hR2⟩ := fx_row hS hHX hrl (k := k + 1) (by omega)
 have v1 := vs_nth (n := n) (X := X) hv (k := k) (by omega)
 have v2 := vs_nth (n := n) (X := X) hv (k := k + 1) (by omega)
 obtain ⟨p1, hp1⟩ : ∃ p, p = nth X k := ⟨_, rfl⟩
 obtain ⟨p2, hp2⟩ : ∃ p, p = nth X (k + 1) := ⟨_, rfl⟩
 have HPX : Hid (∀ i, pullX X k i = (X.set k (bkP p1 i)).set (k + 1) (swpL p2 i)) := hid fun i => by rw [hp1, hp2]; rfl
 rw [← hp1] at hR1 v1 ⊢
 rw [← hp2] at hR2 v2 ⊢
 have qb := (hS.blk 0 rfl).1
 have hRo := hS.rd 1 rfl
 obtain ⟨K1, hK1⟩ : ∃ K : Int, K = ((k + 1 : Nat) : Int) := ⟨_, rfl⟩
 have hw1 : IntKind.i64.wrap ((k : Int) + 1) = K1 := by rw [hK1]; exact IntWalk.i64_in _ (by omega)
 have hK0 : 0 ≤ K1 := by omega
 have hKm : K1 < (m : Int) := by omega
 have hKH : K1 < (H.length : Int) := by omega
 have hkH : (k : Int) < (H.length : Int) := by omega
 have hkm : (k : Int) < (m : Int) := by omega
 have HE1 := hid eH1; have HE2 : Hid (atD ((none, 0, 0) : SlH) H K1 = (a2, n, c2)) := hid (by rw [hK1]; exact eH2)
 have HHL := hid hH; have HK1 := hid hK1; have HHX := hid hHX
 have HCA : Hid (H[k]?.map cSl = some (cSl (a1, n, c1))) := hid (get_mapS (by omega) eH1)
 have HCB : Hid (H[k + 1]?.map cSl = some (cSl (a2, n, c2))) := hid (get_mapS (by omega) eH2)
 have HXK : Hid (k + 1 < X.length) := hid (by omega)
 have HFO : Hid (∀ w', Below w.heap.size w w' → Calls Tryz.prog 71 #[.slice a1 n c1, .slice a2 n c2] w' fun r w'' => r = .returned (folV n p1 p2) ∧ Below w'.heap.size w' w'') := hid fun w' hb => follows_any a1 a2 c1 c2 n p1 p2 w' (hR1.below hb) (hR2.below hb) v1 v2 hn1 hn
 cases hf : folP n p1 p2 with
 | none =>
  have eV : folV n p1 p2 = .tuple #[.int .i64 0, .bool false] := by unfold folV; rw [hf]; rfl
  rw [eV] at HFO
  clear hf eV hp1 hp2 hv v1 v2 eH1 eH2 hHX hrl hR1 hR2 hK1 hH hX
  go_enter Tryz.func94, Tryz.ntmps94
  go_wp2_with fail
  refine wp_region_q kR kR ?_
  repeat (first | ((with_reducible refine wpB_load F_smps wU wU (by assumption) wU ?_); (try simp only [Act.put, pA, pB, pC])) | (((with_reducible refine wpB_idx2 ((none, 0, 0) : SlH) E_smps F_smp cSl1 wU (HHL.out) wU (hRo) oD oD (fun _ => wU) (fun _ => ?_)); (try simp only [Act.put, pA, pB, pC]); (try simp only [cInt])); first | rw [HE1.out] | rw [HE2.out]) | ((refine wpB_call (.tuple #[.int .i64 0, .bool false]) wU (fun w' => ?_) (fun w' hw' => HFO.out w' hw') ?_); (focus (go_simp; done)); (try simp only [Act.put, pA, pB, pC])) |  ((with_reducible refine wpB_load (by first | exact F_int | fail) wU wU (by assumption) wU ?_); (try simp only [Act.put, pA, pB, pC])) | ((with_reducible refine wpB_loadS (n := 2) (us := #[_, _]) (by fail) kR wU wU (by assumption) wU wU ?_); (try simp only [Act.put, pA, pB, pC])) | ((with_reducible refine wpB_loadS (n := 4) (us := #[_, _, _, _]) (by fail) kR wU wU (by assumption) wU wU ?_); (try simp only [Act.put, pA, pB, pC])) | ((refine wpQ_oneG ?_ wU (fun w' => ?_) ?_); rotate_left; (go_simp; rfl); (try simp only [Act.put, pA, pB, pC])))
  refine wpQuiet_nil ?_
  intro w1 hb1
  go_wp2_with fail
  go_ret
  exact ⟨fun _ => ⟨rfl, hS.mono hb1⟩, fun i h => by cases h⟩
 | some i =>
  have eV : folV n p1 p2 = .tuple #[.int .i64 i, .bool true] := by unfold folV; rw [hf]; rfl
  rw [eV] at HFO
  obtain ⟨hi1, hi2, hi3⟩ := fol_some hf
  have hi : i + 1 < n := by omega
  have CBK := fun (a : Option Addr) (c : Nat) w h => backed_any a c p1 i w h v1.1 (by rw [v1.2]; exact hi) (by rw [v1.2]; exact hn)
  have CFR := fun (a : Option Addr) (c : Nat) w h => fronted_any a c p2 i w h (by rw [v2.2]; exact hi) (by rw [v2.2]; exact hn)
  rw [v1.2] at CBK
  rw [v2.2] at CFR
  have hbl : (bkP p1 i).length = n := (v1.bk hi).2
  have hsl : (swpL p2 i).length = n := (v2.fr hi).2
  have HBK := hid CBK; have HFR := hid CFR; have HBL := hid hbl; have HSL := hid hsl
  clear hf eV hp1 hp2 hv v1 v2 eH1 eH2 hHX hrl hK1 hH hX CBK CFR hbl hsl hi1 hi2 hi3 hi
  go_enter Tryz.func94, Tryz.ntmps94
  go_wp2_with fail
  refine wp_region_q kR kR ?_
  repeat (first | ((with_reducible refine wpB_load F_smps wU wU (by assumption) wU ?_); (try simp only [Act.put, pA, pB, pC])) | (((with_reducible refine wpB_idx2 ((none, 0, 0) : SlH) E_smps F_smp cSl1 wU (HHL.out) wU (hRo) oD oD (fun _ => wU) (fun _ => ?_)); (try simp only [Act.put, pA, pB, pC]); (try simp only [cInt])); first | rw [HE1.out] | rw [HE2.out]) | ((refine wpB_call (.tuple #[.int .i64 i, .bool true]) wU (fun w' => ?_) (fun w' hw' => HFO.out w' hw') ?_); (focus (go_simp; done)); (try simp only [Act.put, pA, pB, pC])) |  ((with_reducible refine wpB_load (by first | exact F_int | fail) wU wU (by assumption) wU ?_); (try simp only [Act.put, pA, pB, pC])) | ((with_reducible refine wpB_loadS (n := 2) (us := #[_, _]) (by fail) kR wU wU (by assumption) wU wU ?_); (try simp only [Act.put, pA, pB, pC])) | ((with_reducible refine wpB_loadS (n := 4) (us := #[_, _, _, _]) (by fail) kR wU wU (by assumption) wU wU ?_); (try simp only [Act.put, pA, pB, pC])) | ((refine wpQ_oneG ?_ wU (fun w' => ?_) ?_); rotate_left; (go_simp; rfl); (try simp only [Act.put, pA, pB, pC])))
  refine wpQuiet_nil ?_
  intro w1 hb1
  have hS1 := hS.mono hb1
  replace hR1 := hR1.below hb1
  replace hR2 := hR2.below hb1
  have q1 := (hS1.blk 0 rfl).1
  clear hS qb hRo HFO
  go_wp2_with fail
  have kc : ∀ V : World, (Below B w0 V ∧ V.heap[Bx]? = some (.cells #[.slice (some ⟨G, 0, none⟩) m cp] 103)) → V.cell? ⟨Bx, 0, none⟩ = some (.slice (some ⟨G, 0, none⟩) m cp) := fun V h => by simp [World.cell?, h.2]
  refine wp_regionK (C := (fun V => Below B w0 V ∧ V.heap[Bx]? = some (.cells #[.slice (some ⟨G, 0, none⟩) m cp] 103))) [0, 1, 2, 3, 4, 5, 6, 7, 9, 11, 12, 13, 14, 16] [_, _, _, _, _, _, _, _, _, _, _, _, _, _] 8 (by simp only [List.map_cons, List.map_nil, List.getElem?_toArray]; rfl) rfl kR kR kR (⟨hS1.b.drew, q1⟩) ?_
  refine ⟨_, yieldsK_cellC F_smps (fun V h => kc V h) wU wU, ?_⟩
  go_frame
  refine ⟨.int .i64 (k : Int), yieldsK_val wU (fun w' => by first | (go_simp; done) | (go_simp; rfl)), ?_⟩
  go_frame
  refine ⟨_, yieldsK_cellC F_smps (fun V h => kc V h) wU wU, ?_⟩
  go_frame
  refine ⟨.int .i64 (k : Int), yieldsK_val wU (fun w' => by first | (go_simp; done) | (go_simp; rfl)), ?_⟩
  go_frame
  refine ⟨.int .i64 K1, yieldsK_val wU (fun w' => by first | (go_simp; done) | (go_simp; rfl)), ?_⟩
  go_frame
  refine ⟨_, yieldsK_cellC F_smps (fun V h => kc V h) wU wU, ?_⟩
  go_frame
  refine ⟨.int .i64 (k : Int), yieldsK_val wU (fun w' => by first | (go_simp; done) | (go_simp; rfl)), ?_⟩
  go_frame
  refine ⟨.pointer (some ⟨G, k, none⟩), yieldsK_val wU (fun w' => by first | (go_simp; done) | (go_simp; rfl)), ?_⟩
  go_frame
  refine ⟨.int .i64 (i : Int), yieldsK_val wU (fun w' => by first | (go_simp; done) | (go_simp; rfl)), ?_⟩
  go_frame
  refine ⟨_, yieldsK_cellC F_smps (fun V h => kc V h) wU wU, ?_⟩
  go_frame
  refine ⟨.int .i64 (k : Int), yieldsK_val wU (fun w' => by first | (go_simp; done) | (go_simp; rfl)), ?_⟩
  go_frame
  refine ⟨.int .i64 K1, yieldsK_val wU (fun w' => by first | (go_simp; done) | (go_simp; rfl)), ?_⟩
  go_frame
  refine ⟨.pointer (some ⟨G, K1.toNat, none⟩), yieldsK_val wU (fun w' => by first | (go_simp; done) | (go_simp; rfl)), ?_⟩
  go_frame
  refine ⟨.int .i64 (i : Int), yieldsK_val wU (fun w' => by first | (go_simp; done) | (go_simp; rfl)), ?_⟩
  go_frame
  unfold wpPureK
  have hVd : ({ w1 with drawn := w1.drawn + 1 } : World) = w1.drew := rfl
  rw [hVd]
  clear hVd
  obtain ⟨W, hW⟩ : ∃ W, W = w1.drew := ⟨_, rfl⟩
  have hSW : SL B w0 W ([pBlk Bx (.cells #[.slice (some ⟨G, 0, none⟩) m cp] 103), pOwn cSl 1 67 (.slice (some ⟨G, 0, none⟩) m cp) H] ++ (mxQ H X).map inP) := by rw [hW]; exact hS1.drew
  have hR1W : Ints W a1 c1 p1 := by rw [hW]; exact hR1.below (Below.refl _ _).drew
  have hR2W : Ints W a2 c2 p2 := by rw [hW]; exact hR2.below (Below.refl _ _).drew
  rw [← hW]
  clear hW hS1 hR1 hR2 q1 kc
  obtain ⟨g0, eg0, -, cA, -, -⟩ := hSW.setOwn cSl1 1 rfl (k : Int) (by omega) hkH (none, 0, 0)
  cases eg0
  obtain ⟨g0, eg0, -, cB, -, -⟩ := hSW.setOwn cSl1 1 rfl K1 hK0 hKH (none, 0, 0)
  cases eg0
  rw [show ((k : Int)).toNat = k by omega, HCA.out] at cA
  have eK : K1.toNat = k + 1 := by have := HK1.out; omega
  rw [eK, HCB.out] at cB
  rw [eK]
  clear eK
  simp only [cSl] at cA cB
  refine wpAnyC_on [8, 15] kR (by simp) ?_
  simp only [List.forall_mem_cons, List.not_mem_nil, false_implies, implies_true, and_true]
  refine ⟨?_, ?_⟩
  ·as_aux_lemma =>
   refine wpOp_value (v := .slice a1 n c1) (w' := W) (by rw [List.getElem?_toArray]; rfl) wU (by first | (go_simp; done) | (go_simp; rfl) | (simp [execOp, Act.eval, Result.andThen]; done)) ?_
   refine ⟨⟨hSW.b, (hSW.blk 0 rfl).1⟩, ?_⟩
   go_frame
   refine wpAnyC_on [10, 15] kR (by simp) ?_
   simp only [List.forall_mem_cons, List.not_mem_nil, false_implies, implies_true, and_true]
   refine ⟨?_, ?_⟩
   ·as_aux_lemma =>
    refine wpOp_call (f := 66) (args := #[.slice a1 n c1, .int .i64 (i : Int)]) (by rw [List.getElem?_toArray]; rfl) wU (by first | (go_simp; done) | (simp [execOp, Act.eval, Result.andThen]; done) | (simp [execOp, Act.eval, Result.andThen]; rfl)) ?_
    refine (HBK.out a1 c1 _ hR1W).mono ?_
    rintro e V1 ⟨v1, rfl, ho1, hb1⟩
    obtain ⟨x1, y1, rfl, hr1, _, _⟩ := ho1.reps
    rw [HBL.out]
    have hS2 := hSW.call (SL.ofOwn ho1 hb1)
    simp only [List.cons_append, List.nil_append] at hS2
    rw [HBL.out] at hS2
    have hR2V := hR2W.below hb1
    have cBV : V1.cell? ⟨G, k + 1, none⟩ = some (.slice a2 n c2) := (hb1.cell (p := ⟨G, k + 1, none⟩) (World.block_lt_of_cell? _ _ cB)).trans cB
    refine ⟨_, rfl, ⟨hS2.b, (hS2.blk 1 rfl).1⟩, ?_⟩
    go_frame
    refine wpAnyC_on [15] kR (by simp) ?_
    simp only [List.forall_mem_cons, List.not_mem_nil, false_implies, implies_true, and_true]
    refine wpOp_value (v := .slice a2 n c2) (w' := V1) (by rw [List.getElem?_toArray]; rfl) wU (by first | (go_simp; done) | (go_simp; rfl) | (simp [execOp, Act.eval, Result.andThen]; done)) ?_
    refine ⟨⟨hS2.b, (hS2.blk 1 rfl).1⟩, ?_⟩
    go_frame
    refine wpAnyC_on [17] kR (by simp) ?_
    simp only [List.forall_mem_cons, List.not_mem_nil, false_implies, implies_true, and_true]
    refine wpOp_call (f := 63) (args := #[.slice a2 n c2, .int .i64 (i : Int)]) (by rw [List.getElem?_toArray]; rfl) wU (by first | (go_simp; done) | (simp [execOp, Act.eval, Result.andThen]; done) | (simp [execOp, Act.eval, Result.andThen]; rfl)) ?_
    refine (HFR.out a2 c2 _ hR2V).mono ?_
    rintro e V2 ⟨v2, rfl, ho2, hb2⟩
    obtain ⟨x2, y2, rfl, hr2, _, _⟩ := ho2.reps
    rw [HSL.out]
    have hS3 := hS2.call (SL.ofOwn ho2 hb2)
    simp only [List.cons_append, List.nil_append] at hS3
    rw [HSL.out] at hS3
    refine ⟨_, rfl, ⟨hS3.b, (hS3.blk 2 rfl).1⟩, ?_⟩
    go_frame
    obtain ⟨g1, eg1, -, hcP, hfP, hS4⟩ := hS3.setOwn cSl1 3 rfl (k : Int) (by omega) hkH ((x1, n, y1) : SlH)
    cases eg1
    obtain ⟨g2, eg2, -, hcQ, hfQ, hS5⟩ := hS4.setOwn cSl1 3 rfl K1 hK0 (by rw [List.length_set]; exact hKH) ((x2, n, y2) : SlH)
    cases eg2
    have eK : K1.toNat = k + 1 := by have := HK1.out; omega
    rw [show ((k : Int)).toNat = k by omega] at hcP hfP hS4 hcQ hfQ hS5
    rw [eK] at hcQ hfQ hS5
    have hcP2 : V2.cell? ⟨G, k, none⟩ = some (cSl (a1, n, c1)) := by rw [hcP]; exact HCA.out
    have hcQ2 : (V2.setCell ⟨G, k, none⟩ (cSl ((x1, n, y1) : SlH))).cell? ⟨G, k + 1, none⟩ = some (cSl (a2, n, c2)) := by rw [hcQ, List.getElem?_set_ne (by omega)]; exact HCB.out
    refine wpAnyC_on [18] kR (by simp) ?_
    simp only [List.forall_mem_cons, List.not_mem_nil, false_implies, implies_true, and_true]
    refine wpOp_value (v := .pointer (some ⟨G, k, none⟩)) (w' := V2) (by rw [List.getElem?_toArray]; rfl) wU (by first | (go_simp; done) | (go_simp; rfl) | (simp [execOp, Act.eval, Result.andThen]; done)) ?_
    refine ⟨⟨hS3.b, (hS3.blk 2 rfl).1⟩, ?_⟩
    go_frame
    refine wpAnyC_on [19] kR (by simp) ?_
    simp only [List.forall_mem_cons, List.not_mem_nil, false_implies, implies_true, and_true]
    refine wpOp_of_list (by rw [List.getElem?_toArray]; rfl) ?_
    refine wpList_stoAt (sto_smp ((x1, n, y1) : SlH) _ _) wU wU hcP2 hfP ?_
    refine ⟨⟨hS4.b, (hS4.blk 2 rfl).1⟩, ?_⟩
    go_frame
    refine wpAnyC_on [20] kR (by simp) ?_
    simp only [List.forall_mem_cons, List.not_mem_nil, false_implies, implies_true, and_true]
    refine wpOp_value (v := .pointer (some ⟨G, k + 1, none⟩)) (w' := (V2.setCell ⟨G, k, none⟩ (cSl ((x1, n, y1) : SlH)))) (by rw [List.getElem?_toArray]; rfl) wU (by first | (go_simp; done) | (go_simp; rfl) | (simp [execOp, Act.eval, Result.andThen]; done)) ?_
    refine ⟨⟨hS4.b, (hS4.blk 2 rfl).1⟩, ?_⟩
    go_frame
    refine wpAnyC_on [21] kR (by simp) ?_
    simp only [List.forall_mem_cons, List.not_mem_nil, false_implies, implies_true, and_true]
    refine wpOp_of_list (by rw [List.getElem?_toArray]; rfl) ?_
    refine wpList_stoAt (sto_smp ((x2, n, y2) : SlH) _ _) wU wU hcQ2 hfQ ?_
    refine ⟨⟨hS5.b, (hS5.blk 2 rfl).1⟩, ?_⟩
    go_frame
    refine wpAnyC_rest [] [] rfl rfl kR kR kR ⟨hS5.b, (hS5.blk 2 rfl).1⟩ ?_
    unfold wpPure
    refine of_wpList_nil (P := Tryz.prog) (ops := #[]) ?_
    have hfin := pull_pieces (x1 := ((x1, n, y1) : SlH)) (x2 := ((x2, n, y2) : SlH)) HHX.out HXK.out hS5
    rw [← HPX.out i] at hfin
    clear hS5 hS4 hS3 hcP hfP hcQ hfQ hcP2 hcQ2
    generalize ((V2.setCell ⟨G, k, none⟩ (cSl ((x1, n, y1) : SlH))).setCell ⟨G, k + 1, none⟩ (cSl ((x2, n, y2) : SlH))) = w9 at *
    go_wp2_with fail
    go_ret
    refine ⟨fun h => (by cases h), fun j h => ?_⟩
    cases h
    exact ⟨rfl, _, by rw [List.length_set, List.length_set]; exact HHL.out, hfin⟩
   ·as_aux_lemma =>
    refine wpOp_value (v := .slice a2 n c2) (w' := W) (by rw [List.getElem?_toArray]; rfl) wU (by first | (go_simp; done) | (go_simp; rfl) | (simp [execOp, Act.eval, Result.andThen]; done)) ?_
    refine ⟨⟨hSW.b, (hSW.blk 0 rfl).1⟩, ?_⟩
    go_frame
    refine wpAnyC_on [10] kR (by simp) ?_
    simp only [List.forall_mem_cons, List.not_mem_nil, false_implies, implies_true, and_true]
    refine wpOp_call (f := 66) (args := #[.slice a1 n c1, .int .i64 (i : Int)]) (by rw [List.getElem?_toArray]; rfl) wU (by first | (go_simp; done) | (simp [execOp, Act.eval, Result.andThen]; done) | (simp [execOp, Act.eval, Result.andThen]; rfl)) ?_
    refine (HBK.out a1 c1 _ hR1W).mono ?_
    rintro e V1 ⟨v1, rfl, ho1, hb1⟩
    obtain ⟨x1, y1, rfl, hr1, _, _⟩ := ho1.reps
    rw [HBL.out]
    have hS2 := hSW.call (SL.ofOwn ho1 hb1)
    simp only [List.cons_append, List.nil_append] at hS2
    rw [HBL.out] at hS2
    have hR2V := hR2W.below hb1
    have cBV : V1.cell? ⟨G, k + 1, none⟩ = some (.slice a2 n c2) := (hb1.cell (p := ⟨G, k + 1, none⟩) (World.block_lt_of_cell? _ _ cB)).trans cB
    refine ⟨_, rfl, ⟨hS2.b, (hS2.blk 1 rfl).1⟩, ?_⟩
    go_frame
    refine wpAnyC_on [17] kR (by simp) ?_
    simp only [List.forall_mem_cons, List.not_mem_nil, false_implies, implies_true, and_true]
    refine wpOp_call (f := 63) (args := #[.slice a2 n c2, .int .i64 (i : Int)]) (by rw [List.getElem?_toArray]; rfl) wU (by first | (go_simp; done) | (simp [execOp, Act.eval, Result.andThen]; done) | (simp [execOp, Act.eval, Result.andThen]; rfl)) ?_
    refine (HFR.out a2 c2 _ hR2V).mono ?_
    rintro e V2 ⟨v2, rfl, ho2, hb2⟩
    obtain ⟨x2, y2, rfl, hr2, _, _⟩ := ho2.reps
    rw [HSL.out]
    have hS3 := hS2.call (SL.ofOwn ho2 hb2)
    simp only [List.cons_append, List.nil_append] at hS3
    rw [HSL.out] at hS3
    refine ⟨_, rfl, ⟨hS3.b, (hS3.blk 2 rfl).1⟩, ?_⟩
    go_frame
    obtain ⟨g1, eg1, -, hcP, hfP, hS4⟩ := hS3.setOwn cSl1 3 rfl (k : Int) (by omega) hkH ((x1, n, y1) : SlH)
    cases eg1
    obtain ⟨g2, eg2, -, hcQ, hfQ, hS5⟩ := hS4.setOwn cSl1 3 rfl K1 hK0 (by rw [List.length_set]; exact hKH) ((x2, n, y2) : SlH)
    cases eg2
    have eK : K1.toNat = k + 1 := by have := HK1.out; omega
    rw [show ((k : Int)).toNat = k by omega] at hcP hfP hS4 hcQ hfQ hS5
    rw [eK] at hcQ hfQ hS5
    have hcP2 : V2.cell? ⟨G, k, none⟩ = some (cSl (a1, n, c1)) := by rw [hcP]; exact HCA.out
    have hcQ2 : (V2.setCell ⟨G, k, none⟩ (cSl ((x1, n, y1) : SlH))).cell? ⟨G, k + 1, none⟩ = some (cSl (a2, n, c2)) := by rw [hcQ, List.getElem?_set_ne (by omega)]; exact HCB.out
    refine wpAnyC_on [18] kR (by simp) ?_
    simp only [List.forall_mem_cons, List.not_mem_nil, false_implies, implies_true, and_true]
    refine wpOp_value (v := .pointer (some ⟨G, k, none⟩)) (w' := V2) (by rw [List.getElem?_toArray]; rfl) wU (by first | (go_simp; done) | (go_simp; rfl) | (simp [execOp, Act.eval, Result.andThen]; done)) ?_
    refine ⟨⟨hS3.b, (hS3.blk 2 rfl).1⟩, ?_⟩
    go_frame
    refine wpAnyC_on [19] kR (by simp) ?_
    simp only [List.forall_mem_cons, List.not_mem_nil, false_implies, implies_true, and_true]
    refine wpOp_of_list (by rw [List.getElem?_toArray]; rfl) ?_
    refine wpList_stoAt (sto_smp ((x1, n, y1) : SlH) _ _) wU wU hcP2 hfP ?_
    refine ⟨⟨hS4.b, (hS4.blk 2 rfl).1⟩, ?_⟩
    go_frame
    refine wpAnyC_on [20] kR (by simp) ?_
    simp only [List.forall_mem_cons, List.not_mem_nil, false_implies, implies_true, and_true]
    refine wpOp_value (v := .pointer (some ⟨G, k + 1, none⟩)) (w' := (V2.setCell ⟨G, k, none⟩ (cSl ((x1, n, y1) : SlH)))) (by rw [List.getElem?_toArray]; rfl) wU (by first | (go_simp; done) | (go_simp; rfl) | (simp [execOp, Act.eval, Result.andThen]; done)) ?_
    refine ⟨⟨hS4.b, (hS4.blk 2 rfl).1⟩, ?_⟩
    go_frame
    refine wpAnyC_on [21] kR (by simp) ?_
    simp only [List.forall_mem_cons, List.not_mem_nil, false_implies, implies_true, and_true]
    refine wpOp_of_list (by rw [List.getElem?_toArray]; rfl) ?_
    refine wpList_stoAt (sto_smp ((x2, n, y2) : SlH) _ _) wU wU hcQ2 hfQ ?_
    refine ⟨⟨hS5.b, (hS5.blk 2 rfl).1⟩, ?_⟩
    go_frame
    refine wpAnyC_rest [] [] rfl rfl kR kR kR ⟨hS5.b, (hS5.blk 2 rfl).1⟩ ?_
    unfold wpPure
    refine of_wpList_nil (P := Tryz.prog) (ops := #[]) ?_
    have hfin := pull_pieces (x1 := ((x1, n, y1) : SlH)) (x2 := ((x2, n, y2) : SlH)) HHX.out HXK.out hS5
    rw [← HPX.out i] at hfin
    clear hS5 hS4 hS3 hcP hfP hcQ hfQ hcP2 hcQ2
    generalize ((V2.setCell ⟨G, k, none⟩ (cSl ((x1, n, y1) : SlH))).setCell ⟨G, k + 1, none⟩ (cSl ((x2, n, y2) : SlH))) = w9 at *
    go_wp2_with fail
    go_ret
    refine ⟨fun h => (by cases h), fun j h => ?_⟩
    cases h
    exact ⟨rfl, _, by rw [List.length_set, List.length_set]; exact HHL.out, hfin⟩
  ·as_aux_lemma =>
   refine wpOp_value (v := .slice a2 n c2) (w' := W) (by rw [List.getElem?_toArray]; rfl) wU (by first | (go_simp; done) | (go_simp; rfl) | (simp [execOp, Act.eval, Result.andThen]; done)) ?_
   refine ⟨⟨hSW.b, (hSW.blk 0 rfl).1⟩, ?_⟩
   go_frame
   refine wpAnyC_on [8] kR (by simp) ?_
   simp only [List.forall_mem_cons, List.not_mem_nil, false_implies, implies_true, and_true]
   refine wpOp_value (v := .slice a1 n c1) (w' := W) (by rw [List.getElem?_toArray]; rfl) wU (by first | (go_simp; done) | (go_simp; rfl) | (simp [execOp, Act.eval, Result.andThen]; done)) ?_
   refine ⟨⟨hSW.b, (hSW.blk 0 rfl).1⟩, ?_⟩
   go_frame
   refine wpAnyC_on [10] kR (by simp) ?_
   simp only [List.forall_mem_cons, List.not_mem_nil, false_implies, implies_true, and_true]
   refine wpOp_call (f := 66) (args := #[.slice a1 n c1, .int .i64 (i : Int)]) (by rw [List.getElem?_toArray]; rfl) wU (by first | (go_simp; done) | (simp [execOp, Act.eval, Result.andThen]; done) | (simp [execOp, Act.eval, Result.andThen]; rfl)) ?_
   refine (HBK.out a1 c1 _ hR1W).mono ?_
   rintro e V1 ⟨v1, rfl, ho1, hb1⟩
   obtain ⟨x1, y1, rfl, hr1, _, _⟩ := ho1.reps
   rw [HBL.out]
   have hS2 := hSW.call (SL.ofOwn ho1 hb1)
   simp only [List.cons_append, List.nil_append] at hS2
   rw [HBL.out] at hS2
   have hR2V := hR2W.below hb1
   have cBV : V1.cell? ⟨G, k + 1, none⟩ = some (.slice a2 n c2) := (hb1.cell (p := ⟨G, k + 1, none⟩) (World.block_lt_of_cell? _ _ cB)).trans cB
   refine ⟨_, rfl, ⟨hS2.b, (hS2.blk 1 rfl).1⟩, ?_⟩
   go_frame
   refine wpAnyC_on [17] kR (by simp) ?_
   simp only [List.forall_mem_cons, List.not_mem_nil, false_implies, implies_true, and_true]
   refine wpOp_call (f := 63) (args := #[.slice a2 n c2, .int .i64 (i : Int)]) (by rw [List.getElem?_toArray]; rfl) wU (by first | (go_simp; done) | (simp [execOp, Act.eval, Result.andThen]; done) | (simp [execOp, Act.eval, Result.andThen]; rfl)) ?_
   refine (HFR.out a2 c2 _ hR2V).mono ?_
   rintro e V2 ⟨v2, rfl, ho2, hb2⟩
   obtain ⟨x2, y2, rfl, hr2, _, _⟩ := ho2.reps
   rw [HSL.out]
   have hS3 := hS2.call (SL.ofOwn ho2 hb2)
   simp only [List.cons_append, List.nil_append] at hS3
   rw [HSL.out] at hS3
   refine ⟨_, rfl, ⟨hS3.b, (hS3.blk 2 rfl).1⟩, ?_⟩
   go_frame
   obtain ⟨g1, eg1, -, hcP, hfP, hS4⟩ := hS3.setOwn cSl1 3 rfl (k : Int) (by omega) hkH ((x1, n, y1) : SlH)
   cases eg1
   obtain ⟨g2, eg2, -, hcQ, hfQ, hS5⟩ := hS4.setOwn cSl1 3 rfl K1 hK0 (by rw [List.length_set]; exact hKH) ((x2, n, y2) : SlH)
   cases eg2
   have eK : K1.toNat = k + 1 := by have := HK1.out; omega
   rw [show ((k : Int)).toNat = k by omega] at hcP hfP hS4 hcQ hfQ hS5
   rw [eK] at hcQ hfQ hS5
   have hcP2 : V2.cell? ⟨G, k, none⟩ = some (cSl (a1, n, c1)) := by rw [hcP]; exact HCA.out
   have hcQ2 : (V2.setCell ⟨G, k, none⟩ (cSl ((x1, n, y1) : SlH))).cell? ⟨G, k + 1, none⟩ = some (cSl (a2, n, c2)) := by rw [hcQ, List.getElem?_set_ne (by omega)]; exact HCB.out
   refine wpAnyC_on [18] kR (by simp) ?_
   simp only [List.forall_mem_cons, List.not_mem_nil, false_implies, implies_true, and_true]
   refine wpOp_value (v := .pointer (some ⟨G, k, none⟩)) (w' := V2) (by rw [List.getElem?_toArray]; rfl) wU (by first | (go_simp; done) | (go_simp; rfl) | (simp [execOp, Act.eval, Result.andThen]; done)) ?_
   refine ⟨⟨hS3.b, (hS3.blk 2 rfl).1⟩, ?_⟩
   go_frame
   refine wpAnyC_on [19] kR (by simp) ?_
   simp only [List.forall_mem_cons, List.not_mem_nil, false_implies, implies_true, and_true]
   refine wpOp_of_list (by rw [List.getElem?_toArray]; rfl) ?_
   refine wpList_stoAt (sto_smp ((x1, n, y1) : SlH) _ _) wU wU hcP2 hfP ?_
   refine ⟨⟨hS4.b, (hS4.blk 2 rfl).1⟩, ?_⟩
   go_frame
   refine wpAnyC_on [20] kR (by simp) ?_
   simp only [List.forall_mem_cons, List.not_mem_nil, false_implies, implies_true, and_true]
   refine wpOp_value (v := .pointer (some ⟨G, k + 1, none⟩)) (w' := (V2.setCell ⟨G, k, none⟩ (cSl ((x1, n, y1) : SlH)))) (by rw [List.getElem?_toArray]; rfl) wU (by first | (go_simp; done) | (go_simp; rfl) | (simp [execOp, Act.eval, Result.andThen]; done)) ?_
   refine ⟨⟨hS4.b, (hS4.blk 2 rfl).1⟩, ?_⟩
   go_frame
   refine wpAnyC_on [21] kR (by simp) ?_
   simp only [List.forall_mem_cons, List.not_mem_nil, false_implies, implies_true, and_true]
   refine wpOp_of_list (by rw [List.getElem?_toArray]; rfl) ?_
   refine wpList_stoAt (sto_smp ((x2, n, y2) : SlH) _ _) wU wU hcQ2 hfQ ?_
   refine ⟨⟨hS5.b, (hS5.blk 2 rfl).1⟩, ?_⟩
   go_frame
   refine wpAnyC_rest [] [] rfl rfl kR kR kR ⟨hS5.b, (hS5.blk 2 rfl).1⟩ ?_
   unfold wpPure
   refine of_wpList_nil (P := Tryz.prog) (ops := #[]) ?_
   have hfin := pull_pieces (x1 := ((x1, n, y1) : SlH)) (x2 := ((x2, n, y2) : SlH)) HHX.out HXK.out hS5
   rw [← HPX.out i] at hfin
   clear hS5 hS4 hS3 hcP hfP hcQ hfQ hcP2 hcQ2
   generalize ((V2.setCell ⟨G, k, none⟩ (cSl ((x1, n, y1) : SlH))).setCell ⟨G, k + 1, none⟩ (cSl ((x2, n, y2) : SlH))) = w9 at *
   go_wp2_with fail
   go_ret
   refine ⟨fun h => (by cases h), fun j h => ?_⟩
   cases h
   exact ⟨rfl, _, by rw [List.length_set, List.length_set]; exact HHL.out, hfin⟩
end Go.Proofs.YtdeoogbiipodmaaGreat
