/- Contracts and plain facts that the claim uses (MaD MaE MaF MaG MaH MaI MaJ MaO MaR MaS). Conditions: as each one states. -/
import Derived.RangeFuncNested
import Derived.RangeFuncBound
import Derived.RangeFuncCalls
import Derived.RangeFuncLeaves
import Derived.RangeFuncFrom
import Derived.Shelf.Abstract
import Derived.Shelf.RegionOpen
import Derived.WalkKit
import Derived.OwnWalkIn
import Derived.TacticsInMore
import Derived.LoopNIn
import Derived.LoopIn
import Derived.Test.YtglpfpdomnllkaaGreatProg
import Derived.WalkSpells
import Derived.Maps.AppendAt
import Derived.Deep.Quiet
import Derived.Maps.Own
import Derived.Maps.OwnSet
import Derived.Maps.Views
import Derived.WalkLawsBesides
import Derived.Laws.EntriesVeiled
import Derived.Deep.QuietTactic
import Derived.BigQuiet
import Derived.Shelf.Strings.Trim
import Derived.Shelf.Strings.SlTrimAscii
import Derived.Shelf.Strings.Repeat
import Derived.Shelf.Strings.OnBuilder
import Derived.Shelf.Strconv.Itoa1
import Derived.Shelf.Strconv.Itoa3
import Derived.Shelf.LaysM
import Derived.Ground.Names2Prog
import Derived.Lib.OthersKept
import Derived.Deep.RegionHeld3
import Derived.Deep.AppendLies
import Derived.Deep.RegionHeldLaw
import Derived.Deep.RegionLaw
import Derived.StillTail
import Derived.Laws.Tables
import Derived.IntWalk
import Derived.Laws.CopyOwn
import Derived.BigRegion
import Derived.ChangeAlike
import Derived.Shelf.Bits.Mul64
import Derived.Lib.ItoaLen
import Derived.Lib.ItoaMem
import Derived.Sort.LoopGhostIn
import Derived.Maps.RangeWalk
import Derived.Maps.Ext
import Derived.Test.YtglpfpdomnllkaaGreatXz01
import Derived.Test.YtglpfpdomnllkaaGreatXz02
import Derived.Test.YtglpfpdomnllkaaGreatXz03
import Derived.Test.YtglpfpdomnllkaaGreatXz04
set_option linter.all false

namespace Go.Proofs.YtglpfpdomnllkaaGreat
open Go.RowKit
set_option maxHeartbeats 8000000
set_option maxRecDepth 100000

theorem permM_step (m : MacV) (k : Nat) (h : k < (permM m).length) : (permM m).take (k + 1) = (permM m).take k ++ [nextM m k] := by
 rw [List.take_succ_eq_append_getElem h]
 simp [permM]
section
variable {ops : Array Oper} {rest : List Oper} {a : Act} {Qa : Act → Prop} {w : World} {d : Option Tmp} {ty : TypeId} {p : String} {af : Array Edge} {g : Option (Nat × Bool)} {x y : Operand} {ts : Array TypeId} {b : Bool} {e : Int}
/-- 'when' in a quiet region. -/
theorem wpB_when (hx : a.eval x = .bool b) (hy : a.eval y = .int .i64 e) (hg : Region.wanted (⟨d, .call { callee := .value (.func 57), args := #[x, y], argTypes := ts }, ty, p, af, g⟩ : Oper) (yielded ops a.tmps) = true)
  (h : wpQuiet Tryz.prog ops (Below w.heap.size w) Qa rest (a.put d (.int .i64 (if b then e else 0)))) :
  wpQuiet Tryz.prog ops (Below w.heap.size w) Qa (⟨d, .call { callee := .value (.func 57), args := #[x, y], argTypes := ts }, ty, p, af, g⟩ :: rest) a := by
 refine wpB_call (f := 57) (args := #[.bool b, .int .i64 e]) (.int .i64 (if b then e else 0)) hg (fun w' => ?_) (fun w' _ => calls_below (mwhen_any b e w')) h
 have e1 : a.eval (.func 57) = .func (.func 57) #[] #[] := rfl
 generalize a.eval = ev at hx hy e1
 simp [execOp, resolve, invoke, hx, hy, e1, Deferred.ofValue, go_sem, Tryz.func57]
end

theorem firstE_head {a : Int} {l : List Int} (h : a ≠ 0) : firstE (a :: l) = a := by rw [firstE_cons]; simp [h]
theorem firstE_z (l : List Int) : firstE (0 :: l) = firstE l := by rw [firstE_cons]; simp
theorem swGo_step (m : MacV) (k : Nat) (h : k < m.sw.length) (o : Option Int) : swGo m o (m.sw.drop k) = if sharedM m (atD 0 m.sw k) = false then 10 else match o with
  | none => swGo m (some (atD 0 m.sw k)) (m.sw.drop (k + 1))
  | some b => if atD 0 m.sw k ≤ b then 11 else swGo m (some (atD 0 m.sw k)) (m.sw.drop (k + 1)) := by
 have e : m.sw.drop k = atD 0 m.sw k :: m.sw.drop (k + 1) := by rw [List.drop_eq_getElem_cons h]; simp [atD, h]
 rw [e]
 cases o <;> rfl
end Go.Proofs.YtglpfpdomnllkaaGreat

namespace Go.Proofs.YtglpfpdomnllkaaGreat
open Go.RowKit
set_option maxHeartbeats 8000000
set_option maxRecDepth 100000

theorem A_meet : Aggr Tryz.prog 142 := ⟨_, Tryz.underlying142, rfl⟩
abbrev meC (x : Nat × Int) : Array Value := #[.int .i64 x.1, .int .i64 x.2]
abbrev meO : Option (Nat × Int) → Array Value
 | some x => meC x
 | none => #[.int .i64 0, .int .i64 0]
/-- the answer of meet and first. -/
abbrev meV (r : Option (Nat × Int)) : Value := .tuple #[.agg (meO r), .bool r.isSome]
theorem results_cellSlot {P : Program} {w : World} {fn : Func} {tmps : Array Value} {t T k s : Nat} {us : Array Value} {T' : TypeId} {fr : Nat × Nat} {v : Value} (h : fn.results = #[.cell t T, .tmp s]) (ht : tmps.getD t undef = .pointer (some ⟨k, 0, none⟩)) (hs : tmps.getD s undef = v) (hu : Aggr P T) (hz : (P.info? T).map (·.size) = some us.size) (hb : w.heap[k]? = some (.cells us T' fr)) :
  (results fn tmps).run P w = .ok (.tuple #[.agg us, v]) w := by
 obtain ⟨d, hd, hdd⟩ := hu
 have := run_loadVar_row (P := P) w k T' T us fr d hb hd (by cases d <;> first | exact hdd | rfl | cases hdd) hz
 simp only [Array.getD_eq_getD_getElem?] at ht hs
 simp [results, h, ht, hs, asAddr, this]

theorem before_any (x y : Nat × Int) (w : World) :
  Calls Tryz.prog 160 #[.agg (meC x), .agg (meC y)] w fun r w' => r = .returned (.bool (befo x y)) ∧ Below w.heap.size w w' := by
 have hS := ((SL.nil w).box (.cells (meC x) 142)).box (.cells (meC y) 142)
 unfold befo
 by_cases h1 : (x.1 : Int) < y.1
 ·have d1 : decide ((x.1 : Int) < y.1) = true := decide_eq_true h1
  have d2 : decide (x.1 < y.1) = true := decide_eq_true (by omega)
  go_enter Tryz.func160, Tryz.ntmps160
  go_wp2
  go_ret
  exact ⟨by rw [d2]; rfl, hS.b⟩
 ·have d1 : decide ((x.1 : Int) < y.1) = false := decide_eq_false h1
  have d2 : decide (x.1 < y.1) = false := decide_eq_false (by omega)
  by_cases h3 : (x.1 : Int) = y.1
  ·have d3 : ((x.1 : Int) == y.1) = true := by simpa using h3
   have d4 : decide (x.1 = y.1) = true := decide_eq_true (by omega)
   rw [d2, d4]
   clear h3
   go_enter Tryz.func160, Tryz.ntmps160
   go_wp2
   go_ret
   exact ⟨by simp, hS.b⟩
  ·have d3 : ((x.1 : Int) == y.1) = false := by simpa using h3
   have d4 : decide (x.1 = y.1) = false := decide_eq_false (by omega)
   rw [d2, d4]
   clear h3
   go_enter Tryz.func160, Tryz.ntmps160
   go_wp2
   go_ret
   exact ⟨rfl, hS.b⟩

theorem meet_per2 {m : MacV} {a b : Int} (hg : m.gears ≤ 16) (a0 : 0 ≤ a) (a1 : a < 4 * m.gears) (b0 : 0 ≤ b) (b1 : b < 4 * m.gears) : ∃ L, 0 < L ∧ L ≤ 4096 ∧ itM m a L = a ∧ itM m b L = b := by
 obtain ⟨d, hd⟩ := ordM a0 a1
 obtain ⟨e, he⟩ := ordM b0 b1
 have h1 := hd.le
 have h2 := he.le
 rw [permM_len] at h1 h2
 refine ⟨e * d, Nat.mul_pos he.pos hd.pos, ?_, itP_mul hd.back e, ?_⟩
 ·have : e * d ≤ 64 * 64 := Nat.mul_le_mul (by omega) (by omega)
  omega
 ·rw [Nat.mul_comm]
  exact itP_mul he.back d

theorem meet_any (m : MacV) (ad : Option Addr) (cap : Nat) (a b : Int) (w : World) (hR : Ints w ad cap m.sw) (hg : m.gears ≤ 16) (a0 : 0 ≤ a) (a1 : a < 4 * m.gears) (b0 : 0 ≤ b) (b1 : b < 4 * m.gears) :
  Calls Tryz.prog 159 #[mV m ad cap, .int .i64 a, .int .i64 b] w fun r w' => r = .returned (meV (meetM m a b)) ∧ Below w.heap.size w w' := by
 have hcap := hR.le
 have hmx := hR.max
 obtain ⟨L, hL0, hL1, hLa, hLb⟩ := meet_per2 (m := m) hg a0 a1 b0 b1
 obtain ⟨r, hr⟩ : ∃ r, MeetR m a b r := ⟨_, meetM_spec m a b⟩
 have hrm : meetM m a b = r := (meetM_spec m a b).eq hr
 have CP := fun (s : Int) w (h0 : 0 ≤ s) (h1 : s < 4 * m.gears) => place_any m ad cap s w hg h0 h1
 have CN := fun (s : Int) w (h : Ints w ad cap m.sw) (h0 : 0 ≤ s) (h1 : s < 4 * m.gears) => mnext_any m ad cap s w h hg h0 h1
 have CS := fun (p : Int) w => shared_any m ad cap p w
 rw [hrm]
 have hS := ((SL.nil w).box (.cells (mC m ad cap) 24)).box (.cells #[.int .i64 0, .int .i64 0] 142)
 have HP := hid CP; have HN := hid CN; have HS := hid CS; have HM := hid hr; have HLA := hid hLa; have HLB := hid hLb
 clear CP CN CS hr hrm hLa hLb
 go_enter Tryz.func159, Tryz.ntmps159
 go_wp2_with fail
 go_loopw [8, 9, 10] (fun x y i wr => ∃ n : Nat, n < L ∧ x = .int .i64 (itM m a n) ∧ y = .int .i64 (itM m b n) ∧ i = .int .i64 n ∧ (∀ k, k < n → hitM m (itM m a k) (itM m b k) = false) ∧ SL w.heap.size w wr [pBlk (w.heap.size + 1) (.cells #[.int .i64 0, .int .i64 0] 142), pBlk w.heap.size (.cells (mC m ad cap) 24)]) (fun _ _ i _ => L - (intOf i).toNat)
 case atStart => exact ⟨0, hL0, rfl, rfl, rfl, fun k hk => by omega, by simpa using hS⟩
 case round =>
  clear hS
  obtain ⟨n, hn, rfl, rfl, rfl, hno, hSr⟩ := hrel
  have hX := itM_rng a0 a1 n
  have hY := itM_rng b0 b1 n
  have hX1 := itM_succ a0 a1 n
  have hY1 := itM_succ b0 b1 n
  have hRr := hR.below hSr.b
  obtain ⟨X, eX⟩ : ∃ X, X = itM m a n := ⟨_, rfl⟩
  obtain ⟨Y, eY⟩ : ∃ Y, Y = itM m b n := ⟨_, rfl⟩
  rw [← eX] at hX hX1 ⊢
  rw [← eY] at hY hY1 ⊢
  have CP := fun w => HP.out X w hX.1 hX.2
  have CQ := fun w => HP.out Y w hY.1 hY.2
  have CX := fun w h => HN.out X w h hX.1 hX.2
  have CY := fun w h => HN.out Y w h hY.1 hY.2
  have hhit : hitM m X Y = ((decide (0 ≤ placeM m X) && sharedM m (placeM m X)) && decide (placeM m X = placeM m Y)) := rfl
  obtain ⟨p, hp⟩ : ∃ p, p = placeM m X := ⟨_, rfl⟩
  obtain ⟨q, hq⟩ : ∃ q, q = placeM m Y := ⟨_, rfl⟩
  rw [← hp] at CP hhit
  rw [← hq] at CQ hhit
  have CS := HS.out p
  have q0 := (hSr.blk 1 rfl).1
  have HNO := hid hno; have EX := hid eX; have EY := hid eY; have X1 := hid hX1; have Y1 := hid hY1; have HPP := hid hp
  have HCX := hid CX; have HCY := hid CY
  clear hno eX eY hX1 hY1 CX CY hp hq
  -- what follows where there is no meeting
  by_cases hp0 : 0 ≤ p
  ·have hpd : decide (0 ≤ p) = true := decide_eq_true hp0
   cases hsh : sharedM m p
   ·rw [hsh] at CS
    rw [hsh, Bool.and_false, Bool.false_and] at hhit
    have HIT := hid hhit; have HC := hid CP; have HD := hid CS
    clear CP CQ CS hhit hsh
    go_wp2_with (with_reducible refine wpList_ldS (n := 4) (us := mC m ad cap) A_mach kR wU wU (by assumption) wU wU ?_)
    refine (HC.out _).mono ?_
    rintro e w1 ⟨rfl, b1⟩
    have hS1 := hSr.mono b1
    have q1 := (hS1.blk 1 rfl).1
    go_wp2_with (with_reducible refine wpList_ldS (n := 4) (us := mC m ad cap) A_mach kR wU wU (by assumption) wU wU ?_)
    refine (HD.out _).mono ?_
    rintro e w2 ⟨rfl, b2⟩
    have hS4 := hS1.mono b2
    clear q0 q1
    go_wp2_with fail
    have R4 := hR.below hS4.b
    have q4 := (hS4.blk 1 rfl).1
    refine wp_region_q kR kR ?_
    repeat (first | ((with_reducible refine wpB_loadS (n := 4) (us := mC m ad cap) A_mach kR wU wU (by assumption) wU wU ?_); (try simp only [Act.put, pA, pB, pC])) | ((refine wpB_call (.int .i64 (nextM m X)) wU (fun w' => ?_) (fun w' hw' => HCX.out w' (R4.below hw')) ?_); (focus (go_simp; done)); (try simp only [Act.put, pA, pB, pC])) | ((refine wpB_call (.int .i64 (nextM m Y)) wU (fun w' => ?_) (fun w' hw' => HCY.out w' (R4.below hw')) ?_); (focus (go_simp; done)); (try simp only [Act.put, pA, pB, pC])) |  ((with_reducible refine wpB_load (by first | exact F_int | fail) wU wU (by assumption) wU ?_); (try simp only [Act.put, pA, pB, pC])) | ((with_reducible refine wpB_loadS (n := 2) (us := #[_, _]) (by fail) kR wU wU (by assumption) wU wU ?_); (try simp only [Act.put, pA, pB, pC])) | ((with_reducible refine wpB_loadS (n := 4) (us := #[_, _, _, _]) (by fail) kR wU wU (by assumption) wU wU ?_); (try simp only [Act.put, pA, pB, pC])) | ((refine wpQ_oneG ?_ wU (fun w' => ?_) ?_); rotate_left; (go_simp; rfl); (try simp only [Act.put, pA, pB, pC])))
    refine wpQuiet_nil ?_
    intro w5 hb5
    have hS5 := hS4.mono hb5
    rw [← X1.out, ← Y1.out]
    have hno2 : ∀ k, k < n + 1 → hitM m (itM m a k) (itM m b k) = false := by
     intro k hk
     by_cases e : k = n
     ·rw [e, ← EX.out, ← EY.out]; exact HIT.out
     ·exact HNO.out k (by omega)
    by_cases ea : itM m a (n + 1) = a
    ·by_cases eb : itM m b (n + 1) = b
     ·have hN : MeetR m a b none := meet_none (by omega) ea eb hno2
      have hrn := HM.out.eq hN
      subst hrn
      clear hno2 hN
      rw [ea, eb]
      have da : (a == a) = true := by simp
      have db : (b == b) = true := by simp
      clear ea eb
      go_wp2_with ((with_reducible refine wpList_stoR (us := #[.int .i64 0, .int .i64 0]) 0 wU wU (hS5) wU kR wU wU ?_); intro w6 hS6)
      exact bodyPost_ret (results_cellSlot rfl rfl rfl A_meet kR (hS6.blk 0 rfl).1) rfl ⟨rfl, hS6.b⟩
     ·have da : (itM m a (n + 1) == a) = true := by simpa using ea
      have db : (itM m b (n + 1) == b) = false := by simpa using eb
      have hnl : n + 1 ≠ L := fun e => eb (by rw [e]; exact HLB.out)
      have HNO2 := hid hno2
      clear ea eb hno2
      go_wp2_with fail
      exact ⟨⟨n + 1, by omega, rfl, rfl, by go_num, HNO2.out, hS5⟩, by simp [intOf]; omega⟩
    ·have da : (itM m a (n + 1) == a) = false := by simpa using ea
     have hnl : n + 1 ≠ L := fun e => ea (by rw [e]; exact HLA.out)
     have HNO2 := hid hno2
     clear ea hno2
     go_wp2_with fail
     exact ⟨⟨n + 1, by omega, rfl, rfl, by go_num, HNO2.out, hS5⟩, by simp [intOf]; omega⟩
   ·rw [hsh] at CS
    by_cases hpq : p = q
    ·rw [hsh, hpd, decide_eq_true hpq] at hhit
     have hM : MeetR m a b (some (n, p)) := ⟨by rw [← EX.out, ← EY.out]; exact hhit, by rw [← EX.out]; exact HPP.out, HNO.out⟩
     have hrn := HM.out.eq hM
     subst hrn
     have hpb : (p == q) = true := by simpa using hpq
     have HC := hid CP; have HD := hid CS; have HE := hid CQ
     clear CP CQ CS hhit hsh hpq hM
     go_wp2_with (with_reducible refine wpList_ldS (n := 4) (us := mC m ad cap) A_mach kR wU wU (by assumption) wU wU ?_)
     refine (HC.out _).mono ?_
     rintro e w1 ⟨rfl, b1⟩
     have hS1 := hSr.mono b1
     have q1 := (hS1.blk 1 rfl).1
     go_wp2_with (with_reducible refine wpList_ldS (n := 4) (us := mC m ad cap) A_mach kR wU wU (by assumption) wU wU ?_)
     refine (HD.out _).mono ?_
     rintro e w2 ⟨rfl, b2⟩
     have hS2 := hS1.mono b2
     have q2 := (hS2.blk 1 rfl).1
     clear q1
     go_wp2_with (with_reducible refine wpList_ldS (n := 4) (us := mC m ad cap) A_mach kR wU wU (by assumption) wU wU ?_)
     refine (HE.out _).mono ?_
     rintro e w3 ⟨rfl, b3⟩
     have hS3 := hS2.mono b3
     clear q0 q2
     go_wp2_with ((with_reducible refine wpList_stoR (us := #[.int .i64 n, .int .i64 p]) 0 wU wU (hS3) wU kR wU wU ?_); intro w6 hS6)
     exact bodyPost_ret (results_cellSlot rfl rfl rfl A_meet kR (hS6.blk 0 rfl).1) rfl ⟨rfl, hS6.b⟩
    ·rw [hsh, hpd, decide_eq_false hpq] at hhit
     have hpb : (p == q) = false := by simpa using hpq
     have HIT := hid hhit; have HC := hid CP; have HD := hid CS; have HE := hid CQ
     clear CP CQ CS hhit hsh hpq
     go_wp2_with (with_reducible refine wpList_ldS (n := 4) (us := mC m ad cap) A_mach kR wU wU (by assumption) wU wU ?_)
     refine (HC.out _).mono ?_
     rintro e w1 ⟨rfl, b1⟩
     have hS1 := hSr.mono b1
     have q1 := (hS1.blk 1 rfl).1
     go_wp2_with (with_reducible refine wpList_ldS (n := 4) (us := mC m ad cap) A_mach kR wU wU (by assumption) wU wU ?_)
     refine (HD.out _).mono ?_
     rintro e w2 ⟨rfl, b2⟩
     have hS2 := hS1.mono b2
     have q2 := (hS2.blk 1 rfl).1
     clear q1
     go_wp2_with (with_reducible refine wpList_ldS (n := 4) (us := mC m ad cap) A_mach kR wU wU (by assumption) wU wU ?_)
     refine (HE.out _).mono ?_
     rintro e w3 ⟨rfl, b3⟩
     have hS4 := hS2.mono b3
     clear q0 q2
     go_wp2_with fail
     have R4 := hR.below hS4.b
     have q4 := (hS4.blk 1 rfl).1
     refine wp_region_q kR kR ?_
     repeat (first | ((with_reducible refine wpB_loadS (n := 4) (us := mC m ad cap) A_mach kR wU wU (by assumption) wU wU ?_); (try simp only [Act.put, pA, pB, pC])) | ((refine wpB_call (.int .i64 (nextM m X)) wU (fun w' => ?_) (fun w' hw' => HCX.out w' (R4.below hw')) ?_); (focus (go_simp; done)); (try simp only [Act.put, pA, pB, pC])) | ((refine wpB_call (.int .i64 (nextM m Y)) wU (fun w' => ?_) (fun w' hw' => HCY.out w' (R4.below hw')) ?_); (focus (go_simp; done)); (try simp only [Act.put, pA, pB, pC])) |  ((with_reducible refine wpB_load (by first | exact F_int | fail) wU wU (by assumption) wU ?_); (try simp only [Act.put, pA, pB, pC])) | ((with_reducible refine wpB_loadS (n := 2) (us := #[_, _]) (by fail) kR wU wU (by assumption) wU wU ?_); (try simp only [Act.put, pA, pB, pC])) | ((with_reducible refine wpB_loadS (n := 4) (us := #[_, _, _, _]) (by fail) kR wU wU (by assumption) wU wU ?_); (try simp only [Act.put, pA, pB, pC])) | ((refine wpQ_oneG ?_ wU (fun w' => ?_) ?_); rotate_left; (go_simp; rfl); (try simp only [Act.put, pA, pB, pC])))
     refine wpQuiet_nil ?_
     intro w5 hb5
     have hS5 := hS4.mono hb5
     rw [← X1.out, ← Y1.out]
     have hno2 : ∀ k, k < n + 1 → hitM m (itM m a k) (itM m b k) = false := by
      intro k hk
      by_cases e : k = n
      ·rw [e, ← EX.out, ← EY.out]; exact HIT.out
      ·exact HNO.out k (by omega)
     by_cases ea : itM m a (n + 1) = a
     ·by_cases eb : itM m b (n + 1) = b
      ·have hN : MeetR m a b none := meet_none (by omega) ea eb hno2
       have hrn := HM.out.eq hN
       subst hrn
       clear hno2 hN
       rw [ea, eb]
       have da : (a == a) = true := by simp
       have db : (b == b) = true := by simp
       clear ea eb
       go_wp2_with ((with_reducible refine wpList_stoR (us := #[.int .i64 0, .int .i64 0]) 0 wU wU (hS5) wU kR wU wU ?_); intro w6 hS6)
       exact bodyPost_ret (results_cellSlot rfl rfl rfl A_meet kR (hS6.blk 0 rfl).1) rfl ⟨rfl, hS6.b⟩
      ·have da : (itM m a (n + 1) == a) = true := by simpa using ea
       have db : (itM m b (n + 1) == b) = false := by simpa using eb
       have hnl : n + 1 ≠ L := fun e => eb (by rw [e]; exact HLB.out)
       have HNO2 := hid hno2
       clear ea eb hno2
       go_wp2_with fail
       exact ⟨⟨n + 1, by omega, rfl, rfl, by go_num, HNO2.out, hS5⟩, by simp [intOf]; omega⟩
     ·have da : (itM m a (n + 1) == a) = false := by simpa using ea
      have hnl : n + 1 ≠ L := fun e => ea (by rw [e]; exact HLA.out)
      have HNO2 := hid hno2
      clear ea hno2
      go_wp2_with fail
      exact ⟨⟨n + 1, by omega, rfl, rfl, by go_num, HNO2.out, hS5⟩, by simp [intOf]; omega⟩
  ·have hpd : decide (0 ≤ p) = false := decide_eq_false hp0
   rw [hpd, Bool.false_and, Bool.false_and] at hhit
   have HIT := hid hhit; have HC := hid CP
   clear CP CQ CS hhit
   go_wp2_with (with_reducible refine wpList_ldS (n := 4) (us := mC m ad cap) A_mach kR wU wU (by assumption) wU wU ?_)
   refine (HC.out _).mono ?_
   rintro e w1 ⟨rfl, b1⟩
   have hS4 := hSr.mono b1
   clear q0
   go_wp2_with fail
   have R4 := hR.below hS4.b
   have q4 := (hS4.blk 1 rfl).1
   refine wp_region_q kR kR ?_
   repeat (first | ((with_reducible refine wpB_loadS (n := 4) (us := mC m ad cap) A_mach kR wU wU (by assumption) wU wU ?_); (try simp only [Act.put, pA, pB, pC])) | ((refine wpB_call (.int .i64 (nextM m X)) wU (fun w' => ?_) (fun w' hw' => HCX.out w' (R4.below hw')) ?_); (focus (go_simp; done)); (try simp only [Act.put, pA, pB, pC])) | ((refine wpB_call (.int .i64 (nextM m Y)) wU (fun w' => ?_) (fun w' hw' => HCY.out w' (R4.below hw')) ?_); (focus (go_simp; done)); (try simp only [Act.put, pA, pB, pC])) |  ((with_reducible refine wpB_load (by first | exact F_int | fail) wU wU (by assumption) wU ?_); (try simp only [Act.put, pA, pB, pC])) | ((with_reducible refine wpB_loadS (n := 2) (us := #[_, _]) (by fail) kR wU wU (by assumption) wU wU ?_); (try simp only [Act.put, pA, pB, pC])) | ((with_reducible refine wpB_loadS (n := 4) (us := #[_, _, _, _]) (by fail) kR wU wU (by assumption) wU wU ?_); (try simp only [Act.put, pA, pB, pC])) | ((refine wpQ_oneG ?_ wU (fun w' => ?_) ?_); rotate_left; (go_simp; rfl); (try simp only [Act.put, pA, pB, pC])))
   refine wpQuiet_nil ?_
   intro w5 hb5
   have hS5 := hS4.mono hb5
   rw [← X1.out, ← Y1.out]
   have hno2 : ∀ k, k < n + 1 → hitM m (itM m a k) (itM m b k) = false := by
    intro k hk
    by_cases e : k = n
    ·rw [e, ← EX.out, ← EY.out]; exact HIT.out
    ·exact HNO.out k (by omega)
   by_cases ea : itM m a (n + 1) = a
   ·by_cases eb : itM m b (n + 1) = b
    ·have hN : MeetR m a b none := meet_none (by omega) ea eb hno2
     have hrn := HM.out.eq hN
     subst hrn
     clear hno2 hN
     rw [ea, eb]
     have da : (a == a) = true := by simp
     have db : (b == b) = true := by simp
     clear ea eb
     go_wp2_with ((with_reducible refine wpList_stoR (us := #[.int .i64 0, .int .i64 0]) 0 wU wU (hS5) wU kR wU wU ?_); intro w6 hS6)
     exact bodyPost_ret (results_cellSlot rfl rfl rfl A_meet kR (hS6.blk 0 rfl).1) rfl ⟨rfl, hS6.b⟩
    ·have da : (itM m a (n + 1) == a) = true := by simpa using ea
     have db : (itM m b (n + 1) == b) = false := by simpa using eb
     have hnl : n + 1 ≠ L := fun e => eb (by rw [e]; exact HLB.out)
     have HNO2 := hid hno2
     clear ea eb hno2
     go_wp2_with fail
     exact ⟨⟨n + 1, by omega, rfl, rfl, by go_num, HNO2.out, hS5⟩, by simp [intOf]; omega⟩
   ·have da : (itM m a (n + 1) == a) = false := by simpa using ea
    have hnl : n + 1 ≠ L := fun e => ea (by rw [e]; exact HLA.out)
    have HNO2 := hid hno2
    clear ea hno2
    go_wp2_with fail
    exact ⟨⟨n + 1, by omega, rfl, rfl, by go_num, HNO2.out, hS5⟩, by simp [intOf]; omega⟩
end Go.Proofs.YtglpfpdomnllkaaGreat

namespace Go.Proofs.YtglpfpdomnllkaaGreat
open Go.RowKit
set_option maxHeartbeats 8000000
set_option maxRecDepth 100000

theorem intsTake {w : World} {a : Option Addr} {cap m : Nat} {r : List Int} (h : Ints w a cap r) (hm : m ≤ r.length) : Ints w a cap (r.take m) := by
 have h1 := h.le
 refine ⟨cIntS, by simp; omega, h.2.2.1, h.2.2.2.1, fun j u hj => ?_⟩
 have e : ∀ L : List Int, (L.flatMap fun x => (cInt x).cells.toList) = L.map cInt := by
  intro L
  induction L with
  | nil => rfl
  | cons x r ih => rw [List.flatMap_cons, ih]; rfl
 refine h.2.2.2.2 j u ?_
 rw [e] at hj ⊢
 rw [List.map_take, List.getElem?_take] at hj
 split at hj
 ·exact hj
 ·cases hj
/-- the pairs gone through at a place of both loops. -/
def pairsAt (l : List Int) (i j : Nat) : List (Int × Int) := pairsTo l i ++ (l.take j).map fun b => (atD 0 l i, b)
theorem pairsAt_zero (l : List Int) (i : Nat) : pairsAt l i 0 = pairsTo l i := by simp [pairsAt]
theorem pairsAt_last (l : List Int) (i : Nat) : pairsAt l i i = pairsTo l (i + 1) := by rw [pairsTo_succ]; rfl
theorem take_snoc {l : List Int} {j : Nat} (h : j < l.length) : l.take (j + 1) = l.take j ++ [atD 0 l j] := by
 rw [List.take_succ_eq_append_getElem h]
 simp [atD, h]
theorem first_step (m : MacV) {l : List Int} {i j : Nat} (h : j < l.length) : firstTo m (pairsAt l i (j + 1)) = bestS (firstTo m (pairsAt l i j)) (meetM m (atD 0 l i) (atD 0 l j)) := by
 unfold pairsAt
 rw [take_snoc h, List.map_append, ← List.append_assoc]
 exact firstTo_snoc m _ _

theorem firstB_any (m : MacV) (ad al : Option Addr) (cap cl : Nat) (l : List Int) (w : World) (hR : Ints w ad cap m.sw) (hL : Ints w al cl l) (hg : m.gears ≤ 16) (hl : ∀ x ∈ l, 0 ≤ x ∧ x < 4 * m.gears) :
  Calls Tryz.prog 114 #[mV m ad cap, .slice al l.length cl] w fun r w' => r = .returned (meV (firstM m l)) ∧ Below w.heap.size w w' := by
 have hcap := hL.le
 have hmx := hL.max
 have CM := fun (i j : Nat) w (h : Ints w ad cap m.sw) (hi : i < l.length) (hj : j < l.length) => meet_any m ad cap (atD 0 l i) (atD 0 l j) w h hg (hl _ (atD_memZ (by omega) (by omega))).1 (hl _ (atD_memZ (by omega) (by omega))).2 (hl _ (atD_memZ (by omega) (by omega))).1 (hl _ (atD_memZ (by omega) (by omega))).2
 have hS := (((SL.nil w).box (.cells (mC m ad cap) 24)).box (.cells #[.int .i64 0, .int .i64 0] 142)).box (.cells (meO none) 142)
 simp only [World.size_alloc] at hS
 have HM := hid CM
 clear CM hl
 go_enter Tryz.func114, Tryz.ntmps114
 go_wp2_with fail
 go_loopw [7, 16] (fun fo i wr => ∃ k : Nat, k ≤ l.length ∧ fo = .bool (firstTo m (pairsTo l k)).isSome ∧ i = .int .i64 k ∧ SL w.heap.size w wr [pBlk (w.heap.size + 1 + 1) (.cells (meO (firstTo m (pairsTo l k))) 142), pBlk (w.heap.size + 1) (.cells #[.int .i64 0, .int .i64 0] 142), pBlk w.heap.size (.cells (mC m ad cap) 24)]) (fun _ i _ => l.length - (intOf i).toNat)
 case atStart => exact ⟨0, by omega, rfl, rfl, hS⟩
 case round =>
  clear hS
  obtain ⟨k, hk, rfl, rfl, hSr⟩ := hrel
  by_cases hlt : k < l.length
  ·have hLr := hL.below hSr.b
   go_wp2_with (with_reducible refine wpList_idx _ 0 E_ints F_int cInt1 wU wU (hLr) oD oD (fun _ => wU) (fun _ => ?_))
   go_loopw [7, 25] (fun fo i wq => ∃ j : Nat, j ≤ k ∧ fo = .bool (firstTo m (pairsAt l k j)).isSome ∧ i = .int .i64 j ∧ SL w.heap.size w wq [pBlk (w.heap.size + 1 + 1) (.cells (meO (firstTo m (pairsAt l k j))) 142), pBlk (w.heap.size + 1) (.cells #[.int .i64 0, .int .i64 0] 142), pBlk w.heap.size (.cells (mC m ad cap) 24)]) (fun _ i _ => k - (intOf i).toNat)
   case atStart => exact ⟨0, by omega, by rw [pairsAt_zero], rfl, by rw [pairsAt_zero]; exact hSr⟩
   case round =>
    clear hSr hLr
    obtain ⟨j, hj, rfl, rfl, hSq⟩ := hrel
    by_cases hjk : j < k
    ·have hst := first_step m (l := l) (i := k) (j := j) (by omega)
     have hCM := fun w h => HM.out k j w h hlt (by omega)
     have hRq := hR.below hSq.b
     have hLq := intsTake (hL.below hSq.b) (m := k) (by omega)
     have hlk : (l.take k).length = k := by simp; omega
     have hat : atD 0 (l.take k) j = atD 0 l j := atD_take hjk
     obtain ⟨B, hB⟩ : ∃ B, B = firstTo m (pairsAt l k j) := ⟨_, rfl⟩
     obtain ⟨R, hRR⟩ : ∃ R, R = meetM m (atD 0 l k) (atD 0 l j) := ⟨_, rfl⟩
     rw [← hB, ← hRR] at hst
     rw [← hRR] at hCM
     rw [← hB] at hSq ⊢
     have HC := hid hCM
     have HAT := hid hat
     have q2 := (hSq.blk 2 rfl).1
     clear hCM hB hRR hat
     cases R with
     | none =>
      have hst2 : firstTo m (pairsAt l k (j + 1)) = B := hst
      have HST := hid hst2
      clear hst hst2
      go_wp2_with (first | ((with_reducible refine wpList_idxN _ 0 E_ints F_int cInt1 wU wU (hLq) (hlk) oD oD (fun _ => wU) (fun _ => ?_)); rw [HAT.out]) | (with_reducible refine wpList_ldS (n := 4) (us := mC m ad cap) A_mach kR wU wU (by assumption) wU wU ?_))
      refine (HC.out _ hRq).mono ?_
      rintro e w4 ⟨rfl, b4⟩
      have hS4 := hSq.mono b4
      have hS5 := hS4.box (.cells #[.int .i64 0, .int .i64 0] 142)
      clear q2
      go_wp2_with ((with_reducible refine wpList_stoR (us := #[.int .i64 0, .int .i64 0]) 0 wU wU (hS5) wU kR wU wU ?_); intro w6 hS6)
      exact ⟨⟨j + 1, by omega, by rw [HST.out], by go_num, by rw [HST.out]; exact hS6.tail⟩, by simp [intOf]; omega⟩
     | some v =>
      cases B with
      | none =>
       have hst2 : firstTo m (pairsAt l k (j + 1)) = some v := hst
       have HST := hid hst2
       clear hst hst2
       go_wp2_with (first | ((with_reducible refine wpList_idxN _ 0 E_ints F_int cInt1 wU wU (hLq) (hlk) oD oD (fun _ => wU) (fun _ => ?_)); rw [HAT.out]) | (with_reducible refine wpList_ldS (n := 4) (us := mC m ad cap) A_mach kR wU wU (by assumption) wU wU ?_))
       refine (HC.out _ hRq).mono ?_
       rintro e w4 ⟨rfl, b4⟩
       have hS4 := hSq.mono b4
       have hS5 := hS4.box (.cells #[.int .i64 0, .int .i64 0] 142)
       clear q2
       have hS6 : ∀ w6, SL w.heap.size w w6 [pBlk w4.heap.size (.cells (meC v) 142), pBlk (w.heap.size + 1 + 1) (.cells (meO none) 142), pBlk (w.heap.size + 1) (.cells #[.int .i64 0, .int .i64 0] 142), pBlk w.heap.size (.cells (mC m ad cap) 24)] → w6.heap[w4.heap.size]? = some (.cells (meC v) 142) := fun w6 h => (h.blk 0 rfl).1
       go_wp2_with (first | (((with_reducible refine wpList_stoR (us := meC v) 0 wU wU (hS5) wU kR wU wU ?_); intro w6 hT6); have q6 := hS6 _ hT6) | (with_reducible refine wpList_ldS (n := 2) (us := meC v) A_meet kR wU wU (by assumption) wU wU ?_) | ((with_reducible refine wpList_stoR (us := meC v) 1 wU wU (hT6) wU kR wU wU ?_); intro w7 hT7))
       exact ⟨⟨j + 1, by omega, by rw [HST.out]; rfl, by go_num, by rw [HST.out]; exact hT7.tail⟩, by simp [intOf]; omega⟩
      | some u =>
       cases hb : befo v u
       ·have hst2 : firstTo m (pairsAt l k (j + 1)) = some u := by rw [hst]; show (if befo v u then some v else some u) = _; rw [hb]; rfl
        have CB := fun w => before_any v u w
        rw [hb] at CB
        have HST := hid hst2; have HB := hid CB
        clear hst hst2 CB hb
        go_wp2_with (first | ((with_reducible refine wpList_idxN _ 0 E_ints F_int cInt1 wU wU (hLq) (hlk) oD oD (fun _ => wU) (fun _ => ?_)); rw [HAT.out]) | (with_reducible refine wpList_ldS (n := 4) (us := mC m ad cap) A_mach kR wU wU (by assumption) wU wU ?_))
        refine (HC.out _ hRq).mono ?_
        rintro e w4 ⟨rfl, b4⟩
        have hS4 := hSq.mono b4
        have hS5 := hS4.box (.cells #[.int .i64 0, .int .i64 0] 142)
        clear q2
        go_wp2_with (first | (((with_reducible refine wpList_stoR (us := meC v) 0 wU wU (hS5) wU kR wU wU ?_); intro w6 hT6); have q6 := (hT6.blk 0 rfl).1; have q7 := (hT6.blk 1 rfl).1) | (with_reducible refine wpList_ldS (n := 2) (us := meC v) A_meet kR wU wU (by assumption) wU wU ?_) | (with_reducible refine wpList_ldS (n := 2) (us := meC u) A_meet kR wU wU (by assumption) wU wU ?_))
        refine (HB.out _).mono ?_
        rintro e w7 ⟨rfl, b7⟩
        have hT7 := hT6.mono b7
        clear q6 q7
        go_wp2_with fail
        exact ⟨⟨j + 1, by omega, by rw [HST.out]; rfl, by go_num, by rw [HST.out]; exact hT7.tail⟩, by simp [intOf]; omega⟩
       ·have hst2 : firstTo m (pairsAt l k (j + 1)) = some v := by rw [hst]; show (if befo v u then some v else some u) = _; rw [hb]; rfl
        have CB := fun w => before_any v u w
        rw [hb] at CB
        have HST := hid hst2; have HB := hid CB
        clear hst hst2 CB hb
        go_wp2_with (first | ((with_reducible refine wpList_idxN _ 0 E_ints F_int cInt1 wU wU (hLq) (hlk) oD oD (fun _ => wU) (fun _ => ?_)); rw [HAT.out]) | (with_reducible refine wpList_ldS (n := 4) (us := mC m ad cap) A_mach kR wU wU (by assumption) wU wU ?_))
        refine (HC.out _ hRq).mono ?_
        rintro e w4 ⟨rfl, b4⟩
        have hS4 := hSq.mono b4
        have hS5 := hS4.box (.cells #[.int .i64 0, .int .i64 0] 142)
        clear q2
        go_wp2_with (first | (((with_reducible refine wpList_stoR (us := meC v) 0 wU wU (hS5) wU kR wU wU ?_); intro w6 hT6); have q6 := (hT6.blk 0 rfl).1; have q7 := (hT6.blk 1 rfl).1) | (with_reducible refine wpList_ldS (n := 2) (us := meC v) A_meet kR wU wU (by assumption) wU wU ?_) | (with_reducible refine wpList_ldS (n := 2) (us := meC u) A_meet kR wU wU (by assumption) wU wU ?_))
        refine (HB.out _).mono ?_
        rintro e w7 ⟨rfl, b7⟩
        have hT7 := hT6.mono b7
        clear q6 q7
        have q8 := (hT7.blk 0 rfl).1
        go_wp2_with (first | (with_reducible refine wpList_ldS (n := 2) (us := meC v) A_meet kR wU wU (by assumption) wU wU ?_) | ((with_reducible refine wpList_stoR (us := meC v) 1 wU wU (hT7) wU kR wU wU ?_); intro w8 hT8))
        exact ⟨⟨j + 1, by omega, by rw [HST.out]; rfl, by go_num, by rw [HST.out]; exact hT8.tail⟩, by simp [intOf]; omega⟩
    ·have hjj : j = k := by omega
     subst hjj
     have e := pairsAt_last l j
     have HE := hid e
     clear e
     go_wp2_with fail
     exact ⟨⟨j + 1, by omega, by rw [HE.out], by go_num, by rw [← HE.out]; exact hSq⟩, by simp [intOf]; omega⟩
  ·have hkk : k = l.length := by omega
   subst hkk
   have e : firstTo m (pairsTo l l.length) = firstM m l := rfl
   rw [e] at hSr ⊢
   cases hf : firstM m l with
   | none =>
    rw [hf] at hSr
    have q0 := (hSr.blk 0 rfl).1
    have HF := hid hf
    clear hf e
    go_wp2_with (first | (with_reducible refine wpList_ldS (n := 2) (us := #[.int .i64 0, .int .i64 0]) A_meet kR wU wU (by assumption) wU wU ?_) | ((with_reducible refine wpList_stoR (us := #[.int .i64 0, .int .i64 0]) 1 wU wU (hSr) wU kR wU wU ?_); intro w6 hS6))
    exact bodyPost_ret (results_cellSlot rfl rfl rfl A_meet kR (hS6.blk 1 rfl).1) rfl ⟨by rw [HF.out]; rfl, hS6.b⟩
   | some v =>
    rw [hf] at hSr
    have q0 := (hSr.blk 0 rfl).1
    have HF := hid hf
    clear hf e
    go_wp2_with (first | (with_reducible refine wpList_ldS (n := 2) (us := meC v) A_meet kR wU wU (by assumption) wU wU ?_) | ((with_reducible refine wpList_stoR (us := meC v) 1 wU wU (hSr) wU kR wU wU ?_); intro w6 hS6))
    exact bodyPost_ret (results_cellSlot rfl rfl rfl A_meet kR (hS6.blk 1 rfl).1) rfl ⟨by rw [HF.out]; rfl, hS6.b⟩
end Go.Proofs.YtglpfpdomnllkaaGreat

namespace Go.Proofs.YtglpfpdomnllkaaGreat
open Go.RowKit
set_option maxHeartbeats 8000000
set_option maxRecDepth 100000

noncomputable def meetsM (m : MacV) (l : List Int) (n : Int) : Bool := match firstM m l with
 | none => false
 | some x => decide ((x.1 : Int) ≤ n)
theorem meets_any (m : MacV) (ad al : Option Addr) (cap cl : Nat) (l : List Int) (n : Int) (w : World) (hR : Ints w ad cap m.sw) (hL : Ints w al cl l) (hg : m.gears ≤ 16) (hl : ∀ x ∈ l, 0 ≤ x ∧ x < 4 * m.gears) :
  Calls Tryz.prog 58 #[mV m ad cap, .slice al l.length cl, .int .i64 n] w fun r w' => r = .returned (.bool (meetsM m l n)) ∧ Below w.heap.size w w' := by
 have CF := fun w h1 h2 => firstB_any m ad al cap cl l w h1 h2 hg hl
 have hS := (SL.nil w).box (.cells (mC m ad cap) 24)
 have hdef : meetsM m l n = match firstM m l with | none => false | some x => decide ((x.1 : Int) ≤ n) := rfl
 rw [hdef]
 clear hdef
 cases hf : firstM m l with
 | none =>
  rw [hf] at CF
  have HF := hid CF
  clear CF hf
  go_enter Tryz.func58, Tryz.ntmps58
  go_wp2_with fail
  refine (HF.out _ (hR.below hS.b) (hL.below hS.b)).mono ?_
  rintro e w1 ⟨rfl, b1⟩
  have hS1 := (hS.mono b1).box (.cells #[.int .i64 0, .int .i64 0] 142)
  go_wp2_with ((with_reducible refine wpList_stoR (us := #[.int .i64 0, .int .i64 0]) 0 wU wU (hS1) wU kR wU wU ?_); intro w2 hS2)
  go_ret
  exact ⟨rfl, hS2.b⟩
 | some v =>
  rw [hf] at CF
  have HF := hid CF
  clear CF hf
  cases hd : decide ((v.1 : Int) ≤ n)
  all_goals
   go_enter Tryz.func58, Tryz.ntmps58
   go_wp2_with fail
   refine (HF.out _ (hR.below hS.b) (hL.below hS.b)).mono ?_
   rintro e w1 ⟨rfl, b1⟩
   have hS1 := (hS.mono b1).box (.cells #[.int .i64 0, .int .i64 0] 142)
   go_wp2_with (first | (((with_reducible refine wpList_stoR (us := meC v) 0 wU wU (hS1) wU kR wU wU ?_); intro w2 hS2); have q2 := (hS2.blk 0 rfl).1) | (with_reducible refine wpList_ldB F_int wU wU q2 wU ?_))
   go_ret
   exact ⟨by show _ = Ending.returned (.bool (decide ((v.1 : Int) ≤ n))); rw [hd]; rfl, hS2.b⟩

end Go.Proofs.YtglpfpdomnllkaaGreat

namespace Go.Proofs.YtglpfpdomnllkaaGreat
open Go.RowKit
set_option maxHeartbeats 8000000
set_option maxRecDepth 100000

def ChkM (m : MacV) (ad : Option Addr) (cap : Nat) : Prop := ∀ w, Ints w ad cap m.sw → Calls Tryz.prog 111 #[mV m ad cap] w fun r w' => r = .returned (.int .i64 (macE m)) ∧ Below w.heap.size w w'
/-- the error of a load. -/
def loadGo (m : MacV) : List Int → List Int → Int
 | _, [] => 0
 | pre, s :: r => if s < 0 ∨ 4 * m.gears ≤ s then 10 else if s ∈ pre then 9 else loadGo m (pre ++ [s]) r
def loadE (m : MacV) (l : List Int) : Int := if macE m ≠ 0 then macE m else if 4 * m.gears < l.length then 5 else loadGo m [] l
def ChkL (m : MacV) (ad : Option Addr) (cap : Nat) (al : Option Addr) (cl : Nat) (l : List Int) : Prop := ∀ w, Ints w ad cap m.sw → Ints w al cl l →
 Calls Tryz.prog 56 #[mV m ad cap, .slice al l.length cl] w fun r w' => r = .returned (.int .i64 (loadE m l)) ∧ Below w.heap.size w w'

end Go.Proofs.YtglpfpdomnllkaaGreat

namespace Go.Proofs.YtglpfpdomnllkaaGreat
open Go.RowKit
set_option maxHeartbeats 8000000
set_option maxRecDepth 100000

/-- the slots as an int, of any gears. -/
theorem slotsW_any (m : MacV) (ad : Option Addr) (cap : Nat) : ∃ z : Int, (0 ≤ m.gears → m.gears ≤ 16 → z = 4 * m.gears) ∧ ∀ w,
  Calls Tryz.prog 112 #[mV m ad cap] w fun r w' => r = .returned (.int .i64 z) ∧ Below w.heap.size w w' := by
 refine ⟨wrap64 (4 * m.gears), fun h0 h1 => IntWalk.wrap64_in _ (by omega), fun w => ?_⟩
 go_enter Tryz.func112, Tryz.ntmps112
 go_wp2_with fail
 go_ret
 exact ⟨rfl, bal (Below.refl _ _) _⟩

theorem loadGo_step (m : MacV) {l : List Int} {k : Nat} (h : k < l.length) : loadGo m (l.take k) (l.drop k) = if atD 0 l k < 0 ∨ 4 * m.gears ≤ atD 0 l k then 10 else if atD 0 l k ∈ l.take k then 9 else loadGo m (l.take (k + 1)) (l.drop (k + 1)) := by
 rw [take_snoc h]
 conv => lhs; rw [List.drop_eq_getElem_cons h]
 rw [loadGo]
 have e : atD 0 l k = l[k] := by simp [atD, h]
 rw [e]

theorem CheckLoad_any (m : MacV) (ad : Option Addr) (cap : Nat) (al : Option Addr) (cl : Nat) (l : List Int) (HK : ChkM m ad cap) : ChkL m ad cap al cl l := by
 intro w hR hL
 have hcap := hL.le
 have hmx := hL.max
 obtain ⟨z, hz, HZ⟩ := slotsW_any m ad cap
 have hS := (SL.nil w).box (.cells (mC m ad cap) 24)
 have q1 := (hS.blk 0 rfl).1
 have R1 := hR.below hS.b
 by_cases he : macE m = 0
 ·have hok := (macE_zero he).1
  have hlo := hok.lo
  have hhi := hok.hi
  have hz2 := hz (by omega) (by omega)
  subst hz2
  unfold ChkM at HK
  rw [he] at HK
  by_cases hb : 4 * m.gears < l.length
  ·have hv : loadE m l = 5 := by unfold loadE; rw [if_neg (by simp [he]), if_pos hb]
   have HV := hid hv
   have hbd : decide (4 * m.gears < (l.length : Int)) = true := decide_eq_true hb
   clear hv he hok hz hb
   go_enter Tryz.func56, Tryz.ntmps56
   go_wp2_with fail
   refine wp_region_qt 8 kR kR ?_
   simp only [List.take_succ_cons, List.take_zero, List.drop_succ_cons, List.drop_zero]
   repeat (first | ((with_reducible refine wpB_loadS (n := 4) (us := mC m ad cap) A_mach kR wU wU (by assumption) wU wU ?_); (try simp only [Act.put, pA, pB, pC])) | ((refine wpB_call (.int .i64 0) wU (fun w' => ?_) (fun w' hw' => HK w' (R1.below hw')) ?_); (focus (go_simp; done)); (try simp only [Act.put, pA, pB, pC])) | ((refine wpB_call (.int .i64 (4 * m.gears)) wU (fun w' => ?_) (fun w' hw' => HZ w') ?_); (focus (go_simp; done)); (try simp only [Act.put, pA, pB, pC])) | ((with_reducible refine wpB_when wU wU wU ?_); (try simp only [Act.put, pA, pB, pC])) |  ((with_reducible refine wpB_load (by first | exact F_int | fail) wU wU (by assumption) wU ?_); (try simp only [Act.put, pA, pB, pC])) | ((with_reducible refine wpB_loadS (n := 2) (us := #[_, _]) (by fail) kR wU wU (by assumption) wU wU ?_); (try simp only [Act.put, pA, pB, pC])) | ((with_reducible refine wpB_loadS (n := 4) (us := #[_, _, _, _]) (by fail) kR wU wU (by assumption) wU wU ?_); (try simp only [Act.put, pA, pB, pC])) | ((refine wpQ_oneG ?_ wU (fun w' => ?_) ?_); rotate_left; (go_simp; rfl); (try simp only [Act.put, pA, pB, pC])))
   refine wpQuiet_nil ?_
   intro w1 hb1
   have hS1 := hS.mono hb1
   go_wp2_with (go_at_call 55; refine (mfirst_any _ _ [_, _] _ (reps_newN cIntS [_, _] 2 rfl (by decide) _ _ (by simp) rfl)).mono ?_; rw [firstE_z, firstE_head (by decide)]; rintro e w' ⟨rfl, rfl⟩)
   go_ret
   exact ⟨by rw [HV.out]; rfl, bal hS1.b _⟩
  ·have hv : loadE m l = loadGo m [] l := by unfold loadE; rw [if_neg (by simp [he]), if_neg hb]
   have HV := hid hv
   have hbd : decide (4 * m.gears < (l.length : Int)) = false := decide_eq_false hb
   clear hv he hok hz hb
   go_enter Tryz.func56, Tryz.ntmps56
   go_wp2_with fail
   refine wp_region_qt 8 kR kR ?_
   simp only [List.take_succ_cons, List.take_zero, List.drop_succ_cons, List.drop_zero]
   repeat (first | ((with_reducible refine wpB_loadS (n := 4) (us := mC m ad cap) A_mach kR wU wU (by assumption) wU wU ?_); (try simp only [Act.put, pA, pB, pC])) | ((refine wpB_call (.int .i64 0) wU (fun w' => ?_) (fun w' hw' => HK w' (R1.below hw')) ?_); (focus (go_simp; done)); (try simp only [Act.put, pA, pB, pC])) | ((refine wpB_call (.int .i64 (4 * m.gears)) wU (fun w' => ?_) (fun w' hw' => HZ w') ?_); (focus (go_simp; done)); (try simp only [Act.put, pA, pB, pC])) | ((with_reducible refine wpB_when wU wU wU ?_); (try simp only [Act.put, pA, pB, pC])) |  ((with_reducible refine wpB_load (by first | exact F_int | fail) wU wU (by assumption) wU ?_); (try simp only [Act.put, pA, pB, pC])) | ((with_reducible refine wpB_loadS (n := 2) (us := #[_, _]) (by fail) kR wU wU (by assumption) wU wU ?_); (try simp only [Act.put, pA, pB, pC])) | ((with_reducible refine wpB_loadS (n := 4) (us := #[_, _, _, _]) (by fail) kR wU wU (by assumption) wU wU ?_); (try simp only [Act.put, pA, pB, pC])) | ((refine wpQ_oneG ?_ wU (fun w' => ?_) ?_); rotate_left; (go_simp; rfl); (try simp only [Act.put, pA, pB, pC])))
   refine wpQuiet_nil ?_
   intro w1 hb1
   have hS1 := hS.mono hb1
   go_wp2_with (go_at_call 55; refine (mfirst_any _ _ [_, _] _ (reps_newN cIntS [_, _] 2 rfl (by decide) _ _ (by simp) rfl)).mono ?_; rw [firstE_z, firstE_z, firstE_nil]; rintro e w' ⟨rfl, rfl⟩)
   have hS2 := hS1.al (.cells #[.int .i64 0, .int .i64 0] 34)
   clear hS hS1 q1 R1 hb1
   go_loopw [24] (fun i wr => ∃ k : Nat, k ≤ l.length ∧ i = .int .i64 k ∧ loadGo m (l.take k) (l.drop k) = loadGo m [] l ∧ SL w.heap.size w wr [pBlk w.heap.size (.cells (mC m ad cap) 24)]) (fun i _ => l.length - (intOf i).toNat)
   case atStart => exact ⟨0, by omega, rfl, rfl, hS2⟩
   case round =>
    clear hS2
    obtain ⟨k, hk, rfl, hgo, hSr⟩ := hrel
    have hLr := hL.below hSr.b
    by_cases hlt : k < l.length
    ·have hst := loadGo_step m hlt
     rw [hgo] at hst
     obtain ⟨x, hx⟩ : ∃ x, x = atD 0 l k := ⟨_, rfl⟩
     rw [← hx] at hst
     have HX := hid hx
     clear hx hgo
     have hkcl : k ≤ cl := by omega
     have hLk := intsTake hLr (m := k) (by omega)
     have hkl : (l.take k).length = k := by simp; omega
     have CC := fun w h => sContains_any al cl (l.take k) x w h
     rw [hkl] at CC
     clear hkl
     have q1 := (hSr.blk 0 rfl).1
     by_cases c1 : x < 0
     ·have d1 : decide (x < 0) = true := decide_eq_true c1
      rw [if_pos (.inl c1)] at hst
      have HST := hid hst
      clear hst
      cases hc : (l.take k).contains x
      all_goals
       rw [hc] at CC
       have HC := hid CC
       clear CC hc
      ·go_wp2_with ((with_reducible refine wpList_idx _ 0 E_ints F_int cInt1 wU wU (hLr) oD oD (fun _ => wU) (fun _ => ?_)); rw [← HX.out])
       refine wp_region_qt 15 kR kR ?_
       simp only [List.take_succ_cons, List.take_zero, List.drop_succ_cons, List.drop_zero]
       repeat (first | ((with_reducible refine wpB_loadS (n := 4) (us := mC m ad cap) A_mach kR wU wU (by assumption) wU wU ?_); (try simp only [Act.put, pA, pB, pC])) | ((refine wpB_call (.int .i64 (4 * m.gears)) wU (fun w' => ?_) (fun w' hw' => HZ w') ?_); (focus (go_simp; done)); (try simp only [Act.put, pA, pB, pC])) | ((refine wpB_call (.bool false) wU (fun w' => ?_) (fun w' hw' => calls_below (HC.out w' (hLk.below hw'))) ?_); (focus (go_simp; done)); (try simp only [Act.put, pA, pB, pC])) | ((with_reducible refine wpB_when wU wU wU ?_); (try simp only [Act.put, pA, pB, pC])) | ((with_reducible refine wpQ_skip wU ?_); (try simp only [Act.put, pA, pB, pC])) |  ((with_reducible refine wpB_load (by first | exact F_int | fail) wU wU (by assumption) wU ?_); (try simp only [Act.put, pA, pB, pC])) | ((with_reducible refine wpB_loadS (n := 2) (us := #[_, _]) (by fail) kR wU wU (by assumption) wU wU ?_); (try simp only [Act.put, pA, pB, pC])) | ((with_reducible refine wpB_loadS (n := 4) (us := #[_, _, _, _]) (by fail) kR wU wU (by assumption) wU wU ?_); (try simp only [Act.put, pA, pB, pC])) | ((refine wpQ_oneG ?_ wU (fun w' => ?_) ?_); rotate_left; (go_simp; rfl); (try simp only [Act.put, pA, pB, pC])))
       refine wpQuiet_nil ?_
       intro w4 hb4
       have hS4 := hSr.mono hb4
       go_wp2_with (go_at_call 55; refine (mfirst_any _ _ [_, _] _ (reps_newN cIntS [_, _] 2 rfl (by decide) _ _ (by simp) rfl)).mono ?_; rw [firstE_head (by decide)]; rintro e w' ⟨rfl, rfl⟩)
       go_ret
       exact ⟨by rw [HV.out, HST.out]; rfl, bal hS4.b _⟩
      ·go_wp2_with ((with_reducible refine wpList_idx _ 0 E_ints F_int cInt1 wU wU (hLr) oD oD (fun _ => wU) (fun _ => ?_)); rw [← HX.out])
       refine wp_region_qt 15 kR kR ?_
       simp only [List.take_succ_cons, List.take_zero, List.drop_succ_cons, List.drop_zero]
       repeat (first | ((with_reducible refine wpB_loadS (n := 4) (us := mC m ad cap) A_mach kR wU wU (by assumption) wU wU ?_); (try simp only [Act.put, pA, pB, pC])) | ((refine wpB_call (.int .i64 (4 * m.gears)) wU (fun w' => ?_) (fun w' hw' => HZ w') ?_); (focus (go_simp; done)); (try simp only [Act.put, pA, pB, pC])) | ((refine wpB_call (.bool true) wU (fun w' => ?_) (fun w' hw' => calls_below (HC.out w' (hLk.below hw'))) ?_); (focus (go_simp; done)); (try simp only [Act.put, pA, pB, pC])) | ((with_reducible refine wpB_when wU wU wU ?_); (try simp only [Act.put, pA, pB, pC])) | ((with_reducible refine wpQ_skip wU ?_); (try simp only [Act.put, pA, pB, pC])) |  ((with_reducible refine wpB_load (by first | exact F_int | fail) wU wU (by assumption) wU ?_); (try simp only [Act.put, pA, pB, pC])) | ((with_reducible refine wpB_loadS (n := 2) (us := #[_, _]) (by fail) kR wU wU (by assumption) wU wU ?_); (try simp only [Act.put, pA, pB, pC])) | ((with_reducible refine wpB_loadS (n := 4) (us := #[_, _, _, _]) (by fail) kR wU wU (by assumption) wU wU ?_); (try simp only [Act.put, pA, pB, pC])) | ((refine wpQ_oneG ?_ wU (fun w' => ?_) ?_); rotate_left; (go_simp; rfl); (try simp only [Act.put, pA, pB, pC])))
       refine wpQuiet_nil ?_
       intro w4 hb4
       have hS4 := hSr.mono hb4
       go_wp2_with (go_at_call 55; refine (mfirst_any _ _ [_, _] _ (reps_newN cIntS [_, _] 2 rfl (by decide) _ _ (by simp) rfl)).mono ?_; rw [firstE_head (by decide)]; rintro e w' ⟨rfl, rfl⟩)
       go_ret
       exact ⟨by rw [HV.out, HST.out]; rfl, bal hS4.b _⟩
     have d1 : decide (x < 0) = false := decide_eq_false c1
     by_cases c2 : 4 * m.gears ≤ x
     ·have d2 : decide (4 * m.gears ≤ x) = true := decide_eq_true c2
      rw [if_pos (.inr c2)] at hst
      have HST := hid hst
      clear hst
      cases hc : (l.take k).contains x
      all_goals
       rw [hc] at CC
       have HC := hid CC
       clear CC hc
      ·go_wp2_with ((with_reducible refine wpList_idx _ 0 E_ints F_int cInt1 wU wU (hLr) oD oD (fun _ => wU) (fun _ => ?_)); rw [← HX.out])
       refine wp_region_qt 15 kR kR ?_
       simp only [List.take_succ_cons, List.take_zero, List.drop_succ_cons, List.drop_zero]
       repeat (first | ((with_reducible refine wpB_loadS (n := 4) (us := mC m ad cap) A_mach kR wU wU (by assumption) wU wU ?_); (try simp only [Act.put, pA, pB, pC])) | ((refine wpB_call (.int .i64 (4 * m.gears)) wU (fun w' => ?_) (fun w' hw' => HZ w') ?_); (focus (go_simp; done)); (try simp only [Act.put, pA, pB, pC])) | ((refine wpB_call (.bool false) wU (fun w' => ?_) (fun w' hw' => calls_below (HC.out w' (hLk.below hw'))) ?_); (focus (go_simp; done)); (try simp only [Act.put, pA, pB, pC])) | ((with_reducible refine wpB_when wU wU wU ?_); (try simp only [Act.put, pA, pB, pC])) | ((with_reducible refine wpQ_skip wU ?_); (try simp only [Act.put, pA, pB, pC])) |  ((with_reducible refine wpB_load (by first | exact F_int | fail) wU wU (by assumption) wU ?_); (try simp only [Act.put, pA, pB, pC])) | ((with_reducible refine wpB_loadS (n := 2) (us := #[_, _]) (by fail) kR wU wU (by assumption) wU wU ?_); (try simp only [Act.put, pA, pB, pC])) | ((with_reducible refine wpB_loadS (n := 4) (us := #[_, _, _, _]) (by fail) kR wU wU (by assumption) wU wU ?_); (try simp only [Act.put, pA, pB, pC])) | ((refine wpQ_oneG ?_ wU (fun w' => ?_) ?_); rotate_left; (go_simp; rfl); (try simp only [Act.put, pA, pB, pC])))
       refine wpQuiet_nil ?_
       intro w4 hb4
       have hS4 := hSr.mono hb4
       go_wp2_with (go_at_call 55; refine (mfirst_any _ _ [_, _] _ (reps_newN cIntS [_, _] 2 rfl (by decide) _ _ (by simp) rfl)).mono ?_; rw [firstE_head (by decide)]; rintro e w' ⟨rfl, rfl⟩)
       go_ret
       exact ⟨by rw [HV.out, HST.out]; rfl, bal hS4.b _⟩
      ·go_wp2_with ((with_reducible refine wpList_idx _ 0 E_ints F_int cInt1 wU wU (hLr) oD oD (fun _ => wU) (fun _ => ?_)); rw [← HX.out])
       refine wp_region_qt 15 kR kR ?_
       simp only [List.take_succ_cons, List.take_zero, List.drop_succ_cons, List.drop_zero]
       repeat (first | ((with_reducible refine wpB_loadS (n := 4) (us := mC m ad cap) A_mach kR wU wU (by assumption) wU wU ?_); (try simp only [Act.put, pA, pB, pC])) | ((refine wpB_call (.int .i64 (4 * m.gears)) wU (fun w' => ?_) (fun w' hw' => HZ w') ?_); (focus (go_simp; done)); (try simp only [Act.put, pA, pB, pC])) | ((refine wpB_call (.bool true) wU (fun w' => ?_) (fun w' hw' => calls_below (HC.out w' (hLk.below hw'))) ?_); (focus (go_simp; done)); (try simp only [Act.put, pA, pB, pC])) | ((with_reducible refine wpB_when wU wU wU ?_); (try simp only [Act.put, pA, pB, pC])) | ((with_reducible refine wpQ_skip wU ?_); (try simp only [Act.put, pA, pB, pC])) |  ((with_reducible refine wpB_load (by first | exact F_int | fail) wU wU (by assumption) wU ?_); (try simp only [Act.put, pA, pB, pC])) | ((with_reducible refine wpB_loadS (n := 2) (us := #[_, _]) (by fail) kR wU wU (by assumption) wU wU ?_); (try simp only [Act.put, pA, pB, pC])) | ((with_reducible refine wpB_loadS (n := 4) (us := #[_, _, _, _]) (by fail) kR wU wU (by assumption) wU wU ?_); (try simp only [Act.put, pA, pB, pC])) | ((refine wpQ_oneG ?_ wU (fun w' => ?_) ?_); rotate_left; (go_simp; rfl); (try simp only [Act.put, pA, pB, pC])))
       refine wpQuiet_nil ?_
       intro w4 hb4
       have hS4 := hSr.mono hb4
       go_wp2_with (go_at_call 55; refine (mfirst_any _ _ [_, _] _ (reps_newN cIntS [_, _] 2 rfl (by decide) _ _ (by simp) rfl)).mono ?_; rw [firstE_head (by decide)]; rintro e w' ⟨rfl, rfl⟩)
       go_ret
       exact ⟨by rw [HV.out, HST.out]; rfl, bal hS4.b _⟩
     have d2 : decide (4 * m.gears ≤ x) = false := decide_eq_false c2
     rw [if_neg (by omega)] at hst
     by_cases c3 : x ∈ l.take k
     ·have hc : (l.take k).contains x = true := by simpa using c3
      rw [if_pos c3] at hst
      rw [hc] at CC
      have HC := hid CC; have HST := hid hst
      clear CC hc c3 hst
      go_wp2_with ((with_reducible refine wpList_idx _ 0 E_ints F_int cInt1 wU wU (hLr) oD oD (fun _ => wU) (fun _ => ?_)); rw [← HX.out])
      refine wp_region_qt 15 kR kR ?_
      simp only [List.take_succ_cons, List.take_zero, List.drop_succ_cons, List.drop_zero]
      repeat (first | ((with_reducible refine wpB_loadS (n := 4) (us := mC m ad cap) A_mach kR wU wU (by assumption) wU wU ?_); (try simp only [Act.put, pA, pB, pC])) | ((refine wpB_call (.int .i64 (4 * m.gears)) wU (fun w' => ?_) (fun w' hw' => HZ w') ?_); (focus (go_simp; done)); (try simp only [Act.put, pA, pB, pC])) | ((refine wpB_call (.bool true) wU (fun w' => ?_) (fun w' hw' => calls_below (HC.out w' (hLk.below hw'))) ?_); (focus (go_simp; done)); (try simp only [Act.put, pA, pB, pC])) | ((with_reducible refine wpB_when wU wU wU ?_); (try simp only [Act.put, pA, pB, pC])) | ((with_reducible refine wpQ_skip wU ?_); (try simp only [Act.put, pA, pB, pC])) |  ((with_reducible refine wpB_load (by first | exact F_int | fail) wU wU (by assumption) wU ?_); (try simp only [Act.put, pA, pB, pC])) | ((with_reducible refine wpB_loadS (n := 2) (us := #[_, _]) (by fail) kR wU wU (by assumption) wU wU ?_); (try simp only [Act.put, pA, pB, pC])) | ((with_reducible refine wpB_loadS (n := 4) (us := #[_, _, _, _]) (by fail) kR wU wU (by assumption) wU wU ?_); (try simp only [Act.put, pA, pB, pC])) | ((refine wpQ_oneG ?_ wU (fun w' => ?_) ?_); rotate_left; (go_simp; rfl); (try simp only [Act.put, pA, pB, pC])))
      refine wpQuiet_nil ?_
      intro w4 hb4
      have hS4 := hSr.mono hb4
      go_wp2_with (go_at_call 55; refine (mfirst_any _ _ [_, _] _ (reps_newN cIntS [_, _] 2 rfl (by decide) _ _ (by simp) rfl)).mono ?_; rw [firstE_z, firstE_head (by decide)]; rintro e w' ⟨rfl, rfl⟩)
      go_ret
      exact ⟨by rw [HV.out, HST.out]; rfl, bal hS4.b _⟩
     ·have hc : (l.take k).contains x = false := by simpa using c3
      rw [if_neg c3] at hst
      rw [hc] at CC
      have HC := hid CC; have HST := hid hst
      clear CC hc c3 hst
      go_wp2_with ((with_reducible refine wpList_idx _ 0 E_ints F_int cInt1 wU wU (hLr) oD oD (fun _ => wU) (fun _ => ?_)); rw [← HX.out])
      refine wp_region_qt 15 kR kR ?_
      simp only [List.take_succ_cons, List.take_zero, List.drop_succ_cons, List.drop_zero]
      repeat (first | ((with_reducible refine wpB_loadS (n := 4) (us := mC m ad cap) A_mach kR wU wU (by assumption) wU wU ?_); (try simp only [Act.put, pA, pB, pC])) | ((refine wpB_call (.int .i64 (4 * m.gears)) wU (fun w' => ?_) (fun w' hw' => HZ w') ?_); (focus (go_simp; done)); (try simp only [Act.put, pA, pB, pC])) | ((refine wpB_call (.bool false) wU (fun w' => ?_) (fun w' hw' => calls_below (HC.out w' (hLk.below hw'))) ?_); (focus (go_simp; done)); (try simp only [Act.put, pA, pB, pC])) | ((with_reducible refine wpB_when wU wU wU ?_); (try simp only [Act.put, pA, pB, pC])) | ((with_reducible refine wpQ_skip wU ?_); (try simp only [Act.put, pA, pB, pC])) |  ((with_reducible refine wpB_load (by first | exact F_int | fail) wU wU (by assumption) wU ?_); (try simp only [Act.put, pA, pB, pC])) | ((with_reducible refine wpB_loadS (n := 2) (us := #[_, _]) (by fail) kR wU wU (by assumption) wU wU ?_); (try simp only [Act.put, pA, pB, pC])) | ((with_reducible refine wpB_loadS (n := 4) (us := #[_, _, _, _]) (by fail) kR wU wU (by assumption) wU wU ?_); (try simp only [Act.put, pA, pB, pC])) | ((refine wpQ_oneG ?_ wU (fun w' => ?_) ?_); rotate_left; (go_simp; rfl); (try simp only [Act.put, pA, pB, pC])))
      refine wpQuiet_nil ?_
      intro w4 hb4
      have hS4 := hSr.mono hb4
      go_wp2_with (go_at_call 55; refine (mfirst_any _ _ [_, _] _ (reps_newN cIntS [_, _] 2 rfl (by decide) _ _ (by simp) rfl)).mono ?_; rw [firstE_z, firstE_z, firstE_nil]; rintro e w' ⟨rfl, rfl⟩)
      exact ⟨⟨k + 1, by omega, by go_num, HST.out.symm, hS4.al _⟩, by simp [intOf]; omega⟩
    ·have hkk : k = l.length := by omega
     subst hkk
     have e : loadGo m (l.take l.length) (l.drop l.length) = 0 := by rw [List.drop_length]; rfl
     rw [e] at hgo
     have HG := hid hgo
     clear hgo e
     go_wp2_with fail
     go_ret
     exact ⟨by rw [HV.out, ← HG.out]; rfl, hSr.b⟩
 ·have hv : loadE m l = macE m := by unfold loadE; rw [if_pos he]
  unfold ChkM at HK
  obtain ⟨E, hE⟩ : ∃ E, E = macE m := ⟨_, rfl⟩
  rw [← hE] at HK hv he
  have HV := hid hv
  have hne : (E != 0) = true := by simpa using he
  clear hv hE hz
  cases hb : decide (z < (l.length : Int))
  all_goals
   go_enter Tryz.func56, Tryz.ntmps56
   go_wp2_with fail
   refine wp_region_qt 8 kR kR ?_
   simp only [List.take_succ_cons, List.take_zero, List.drop_succ_cons, List.drop_zero]
   repeat (first | ((with_reducible refine wpB_loadS (n := 4) (us := mC m ad cap) A_mach kR wU wU (by assumption) wU wU ?_); (try simp only [Act.put, pA, pB, pC])) | ((refine wpB_call (.int .i64 E) wU (fun w' => ?_) (fun w' hw' => HK w' (R1.below hw')) ?_); (focus (go_simp; done)); (try simp only [Act.put, pA, pB, pC])) | ((refine wpB_call (.int .i64 z) wU (fun w' => ?_) (fun w' hw' => HZ w') ?_); (focus (go_simp; done)); (try simp only [Act.put, pA, pB, pC])) | ((with_reducible refine wpB_when wU wU wU ?_); (try simp only [Act.put, pA, pB, pC])) |  ((with_reducible refine wpB_load (by first | exact F_int | fail) wU wU (by assumption) wU ?_); (try simp only [Act.put, pA, pB, pC])) | ((with_reducible refine wpB_loadS (n := 2) (us := #[_, _]) (by fail) kR wU wU (by assumption) wU wU ?_); (try simp only [Act.put, pA, pB, pC])) | ((with_reducible refine wpB_loadS (n := 4) (us := #[_, _, _, _]) (by fail) kR wU wU (by assumption) wU wU ?_); (try simp only [Act.put, pA, pB, pC])) | ((refine wpQ_oneG ?_ wU (fun w' => ?_) ?_); rotate_left; (go_simp; rfl); (try simp only [Act.put, pA, pB, pC])))
   refine wpQuiet_nil ?_
   intro w1 hb1
   have hS1 := hS.mono hb1
   go_wp2_with (go_at_call 55; refine (mfirst_any _ _ [_, _] _ (reps_newN cIntS [_, _] 2 rfl (by decide) _ _ (by simp) rfl)).mono ?_; rw [firstE_head he]; rintro e w' ⟨rfl, rfl⟩)
   go_ret
   exact ⟨by rw [HV.out]; rfl, bal hS1.b _⟩
end Go.Proofs.YtglpfpdomnllkaaGreat

namespace Go.Proofs.YtglpfpdomnllkaaGreat
open Go.RowKit
set_option maxHeartbeats 8000000
set_option maxRecDepth 100000

theorem loadGo_zero (m : MacV) : ∀ (l pre : List Int), pre.Nodup → loadGo m pre l = 0 → (∀ x ∈ l, 0 ≤ x ∧ x < 4 * m.gears) ∧ (pre ++ l).Nodup
 | [], pre, hp, _ => ⟨fun x hx => absurd hx (by simp), by simpa using hp⟩
 | s :: r, pre, hp, h => by
   rw [loadGo] at h
   split at h
   · omega
   · rename_i h1
     split at h
     · omega
     · rename_i h2
       have hp2 : (pre ++ [s]).Nodup := by
         rw [List.nodup_append]
         refine ⟨hp, by simp, ?_⟩
         intro a ha b hb e
         simp at hb
         subst hb; subst e
         exact h2 ha
       obtain ⟨k1, k2⟩ := loadGo_zero m r (pre ++ [s]) hp2 h
       refine ⟨fun x hx => ?_, by simpa using k2⟩
       rcases List.mem_cons.1 hx with rfl | hx
       · omega
       · exact k1 x hx
structure LoadOk (m : MacV) (l : List Int) : Prop where
 mac : macE m = 0
 ok : MacOk m
 few : l.length ≤ 4 * m.gears
 rng : ∀ x ∈ l, 0 ≤ x ∧ x < 4 * m.gears
 nodup : l.Nodup
theorem loadE_zero {m : MacV} {l : List Int} (h : loadE m l = 0) : LoadOk m l := by
 unfold loadE at h
 split at h
 ·rename_i h1; exact absurd h h1
 ·rename_i h1
  split at h
  ·omega
  ·have h3 : macE m = 0 := by simpa using h1
   obtain ⟨a, b⟩ := loadGo_zero m l [] List.nodup_nil h
   exact ⟨h3, (macE_zero h3).1, by omega, a, by simpa using b⟩
end Go.Proofs.YtglpfpdomnllkaaGreat

namespace Go.Proofs.YtglpfpdomnllkaaGreat
open Go.RowKit
set_option maxHeartbeats 8000000
set_option maxRecDepth 100000

/-- mapped with a function of the program, of which the places are given. -/
theorem mappedN_any (rv : Value) (g : Int → Int) (al : Option Addr) (cl : Nat) (l : List Int) (w : World) (hL : Ints w al cl l) (hn : l.length ≤ 1048576)
  (HF : ∀ x ∈ l, ∀ w', Below w.heap.size w w' → Calls Tryz.prog 54 #[rv, .int .i64 x] w' fun r w'' => r = .returned (.int .i64 (g x)) ∧ Below w'.heap.size w' w'') :
  Calls Tryz.prog 53 #[.slice al l.length cl, .func (.func 54) #[rv] #[]] w fun r w' => ∃ v, r = .returned v ∧ OwnI w.heap.size w' v (l.map g) ∧ Below w.heap.size w w' := by
 have hcap := hL.le
 have hmx := hL.max
 have H := hid HF
 clear HF
 have hS := (SL.nil w).nilS (α := Int) (e := 3) cIntS
 go_enter Tryz.func53, Tryz.ntmps53
 go_wp2_with fail
 go_loopw [5, 10] (fun v i wr => ∃ k : Nat, k ≤ l.length ∧ i = .int .i64 k ∧ SL w.heap.size w wr [pOwn cInt 1 3 v ((l.take k).map g)]) (fun _ i _ => l.length - (intOf i).toNat)
 case atStart => exact ⟨0, by omega, rfl, hS⟩
 case round =>
  clear hS
  obtain ⟨k, hk, rfl, hSr⟩ := hrel
  have hLr := hL.below hSr.b
  by_cases hlt : k < l.length
  ·have hmem := atD_mem hlt
   have ht := take_snoc hlt
   have hlen : ((l.take k).map g).length ≤ 1048576 := by simp; omega
   obtain ⟨x, hx⟩ : ∃ x, x = atD 0 l k := ⟨_, rfl⟩
   rw [← hx] at hmem ht
   have HX := hid hx; have HT := hid ht
   clear hx ht
   go_wp2_with ((with_reducible refine wpList_idx _ 0 E_ints F_int cInt1 wU wU (hLr) oD oD (fun _ => wU) (fun _ => ?_)); rw [← HX.out])
   refine (H.out x hmem _ hSr.b).mono ?_
   rintro e w1 ⟨rfl, b1⟩
   have hS1 := hSr.mono b1
   go_wp2_with ((with_reducible refine wpList_pushL (y := (g x)) 0 E_ints wU wU (hS1) wU cIntO ⟨rfl, rfl⟩ (by first | with_unfolding_all rfl | simp) wU (by first | omega | (simp; omega)) (by first | omega | (simp; omega)) ?_); intro v2 w2 hS2)
   exact ⟨⟨k + 1, by omega, by go_num, by rw [HT.out, List.map_append]; exact hS2⟩, by simp [intOf]; omega⟩
  ·have hkk : k = l.length := by omega
   subst hkk
   rw [List.take_length] at hSr
   go_wp2_with fail
   go_ret
   exact ⟨_, rfl, hSr.own 0 rfl, hSr.b⟩

end Go.Proofs.YtglpfpdomnllkaaGreat

namespace Go.Proofs.YtglpfpdomnllkaaGreat
open Go.RowKit
set_option maxHeartbeats 8000000
set_option maxRecDepth 100000

def noM : MacV := ⟨false, 0, 0, []⟩
end Go.Proofs.YtglpfpdomnllkaaGreat

namespace Go.Proofs.YtglpfpdomnllkaaGreat
open Go.RowKit
set_option maxHeartbeats 8000000
set_option maxRecDepth 100000

section
variable {P : Program} {ops : Array Oper} {a : Act} {ty : TypeId} {p : String} {af : Array Edge} {g : Option (Nat × Bool)} {d : Tmp} {C : World → Prop}
theorem yieldsK_blkC {e : TypeId} {s : Operand} {b n : Nat} {us : Array Value} {T : TypeId} {fr : Nat × Nat} (hF : Aggr P e) (hn : (P.info? e).map (·.size) = some n) (hb : ∀ w, C w → w.heap[b]? = some (.cells us T fr)) (hz : us.size = n)
   (hg : Region.wanted (⟨some d, .load e s, ty, p, af, g⟩ : Oper) (yielded ops a.tmps) = true) (hs : a.eval s = .pointer (some ⟨b, 0, none⟩)) : YieldsK P ops C ⟨some d, .load e s, ty, p, af, g⟩ (.agg us) a := by
 obtain ⟨i, hi, hs2⟩ : ∃ i, P.info? e = some i ∧ i.size = n := by
  cases hi : P.info? e with
  | none => rw [hi] at hn; cases hn
  | some i => rw [hi] at hn; exact ⟨i, rfl, by simpa using hn⟩
 refine .inl ⟨hg, fun w' hw' => ?_⟩
 have hb2 := hb w' hw'
 have := run_loadAt_agg (a := ⟨b, 0, none⟩) w' hF hi (cs := us.toList) (by simp [hs2, hz]) (fun j v hj => by
  have hj2 : us[j]? = some v := by simpa using hj
  rw [Addr.add_z]
  simp [World.cell?, hb2, hj2])
 simp [execOp, hs, this, Result.andThen]
end

end Go.Proofs.YtglpfpdomnllkaaGreat
