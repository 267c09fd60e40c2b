/- Passes as values; a range over an ASCII string; contracts: distance, letters. Conditions: numbers and sizes as stated. Contract: letters. Conditions: the way is ASCII, numbers and sizes as stated. -/
import Derived.Test.YtmomeggnegcheaaGreatDoorPnA
import Derived.Test.YtmomeggnegcheaaGreatDoorTyA
import Derived.Lib.OthersKept
set_option linter.all false
/- Passes as values; a range over an ASCII string; contracts: distance, letters. Conditions: numbers and sizes as stated. -/
namespace Go.Proofs.YtmomeggnegcheaaGreatDoor
open Go.RowKit
set_option maxHeartbeats 400000
set_option maxRecDepth 100000

structure PassV where
  f : Int
  t : Int
  way : ByteArray
instance : Inhabited PassV := ⟨⟨0, 0, ByteArray.empty⟩⟩
def pass0 : PassV := ⟨0, 0, ByteArray.empty⟩
def cPass (p : PassV) : Value := .agg #[.int .i64 p.f, .int .i64 p.t, .string p.way]
attribute [go_sem] cPass
theorem cPass1 (x : PassV) : cPass x = .agg (cPass x).cells := rfl
theorem cPassS (x : PassV) : (cPass x).cells.size = 3 := rfl
theorem cPassO (x : PassV) : ∀ u ∈ (cPass x).cells.toList, u.oneCell' = true := by
  intro u hu; simp [cPass, Value.cells] at hu; rcases hu with rfl | rfl | rfl <;> rfl
abbrev PassesR (w : World) (a : Option Addr) (cap : Nat) (l : List PassV) : Prop := Reps cPass 3 w a cap l
theorem E_passes : ETy Tryz.prog 79 78 (.agg #[.int .i64 0, .int .i64 0, .string ⟨#[]⟩]) 3 32 := ⟨Tryz.underlying79, by kernel_rfl, rfl, by decide⟩
theorem F_pass : Aggr Tryz.prog 78 := ⟨_, Tryz.underlying78, rfl⟩

def byteAt (s : ByteArray) (k : Nat) : Int := if h : k < s.size then ((s[k]'h).toNat : Int) else 0
theorem byteAt_in {s : ByteArray} {k : Nat} (h : k < s.size) : byteAt s k = ((s[k]'h).toNat : Int) := by simp [byteAt, h]

theorem wpList_nextS {P : Program} {ops : Array Oper} {rest : List Oper} {a : Act} {Q : Exit → Act → World → Prop} {d : Option Tmp} {ty : TypeId} {p : String} {x : Operand} {af : Array Edge} {w : World} (k : Nat) (s : ByteArray) (pos : Nat)
    (hk : w.heap[k]? = some (.stringIter s pos)) (h : pos < s.size) (ha : byteAt s pos < 128) (hx : a.eval x = .pointer (some ⟨k, 0, none⟩))
    (hK : ∀ w', w'.heap[k]? = some (.stringIter s (pos + 1)) → w.grownBy w' (some k) → w.heap.size ≤ w'.heap.size → wpList P ops Q rest (a.put d (.tuple #[.bool true, .int .i64 pos, .int .i32 (byteAt s pos)])) w') :
    wpList P ops Q (⟨d, .next x true, ty, p, af, none⟩ :: rest) a w := by
  refine wpList_plain rfl fun K hK' => ?_
  rw [byteAt_in h] at ha
  have hrun := Lib.run_next_ascii_at (P := P) w k s pos ty hk h (by omega)
  unfold Oper.wp
  simp only [execOp, hx]
  simp [hrun, Result.andThen]
  refine hK' _ _ ?_
  have := hK _ (Lib.iterAt_heap w k s pos (pos + 1) hk) ⟨rfl, rfl, rfl, by rw [Lib.iterAt_size]; exact Nat.le_refl _, fun i _ hi => Lib.iterAt_other w k i s (pos + 1) (by simpa using hi)⟩ (by rw [Lib.iterAt_size]; exact Nat.le_refl _)
  rw [byteAt_in h] at this
  exact this
theorem wpList_endS {P : Program} {ops : Array Oper} {rest : List Oper} {a : Act} {Q : Exit → Act → World → Prop} {d : Option Tmp} {ty : TypeId} {p : String} {x : Operand} {af : Array Edge} {w : World} (k : Nat) (s : ByteArray) (pos : Nat)
    (hk : w.heap[k]? = some (.stringIter s pos)) (h : ¬ pos < s.size) (hx : a.eval x = .pointer (some ⟨k, 0, none⟩))
    (hK : wpList P ops Q rest (a.put d (.tuple #[.bool false])) w) :
    wpList P ops Q (⟨d, .next x true, ty, p, af, none⟩ :: rest) a w := by
  refine wpList_plain rfl fun K hK' => ?_
  have hrun := Lib.run_next_end_at (P := P) w k s pos ty hk h
  unfold Oper.wp
  simp only [execOp, hx]
  simp [hrun, Result.andThen]
  exact hK' _ _ hK

/-- how far a pass goes. -/
def distP (p : PassV) : Int := if p.f ≤ p.t then p.t - p.f else p.f - p.t
theorem distance_any (p : PassV) (w : World) (h1 : 1 ≤ p.f) (h2 : p.f ≤ 12) (h3 : 1 ≤ p.t) (h4 : p.t ≤ 12) :
    Calls Tryz.prog 136 #[.agg #[.int .i64 p.f, .int .i64 p.t, .string p.way]] w fun r w' => r = .returned (.int .i64 (distP p)) ∧ Below w.heap.size w w' := by
  go_enter Tryz.func136, Tryz.ntmps136
  go_wp2
  · go_ret
    exact ⟨by rw [show distP p = p.f - p.t by unfold distP; split <;> omega]; rfl, bal (Below.refl _ _) _⟩
  · go_ret
    exact ⟨by rw [show distP p = p.t - p.f by unfold distP; split <;> omega]; rfl, bal (Below.refl _ _) _⟩
end Go.Proofs.YtmomeggnegcheaaGreatDoor

/- Contract: letters. Conditions: the way is ASCII, numbers and sizes as stated. -/
namespace Go.Proofs.YtmomeggnegcheaaGreatDoor
open Go.RowKit
set_option maxHeartbeats 400000
set_option maxRecDepth 100000

def posOf (w : World) (k : Nat) : Nat := match w.heap[k]? with | some (.stringIter _ p) => p | _ => 0
theorem posOf_eq {w : World} {k p : Nat} {s : ByteArray} (h : w.heap[k]? = some (.stringIter s p)) : posOf w k = p := by simp [posOf, h]

def letterAt (p : PassV) (k : Nat) : Int :=
  if byteAt p.way k == 117 then -(if p.t < p.f then (k : Int) + 1 - p.f else p.f + k) else (if p.t < p.f then (k : Int) + 1 - p.f else p.f + k)
def lettersK (p : PassV) (k : Nat) : List Int := (List.range k).map (letterAt p)
def lettersL (p : PassV) : List Int := lettersK p p.way.size
theorem lettersK_succ (p : PassV) (k : Nat) : lettersK p (k + 1) = lettersK p k ++ [letterAt p k] := by simp [lettersK, List.range_succ]
theorem lettersK_len (p : PassV) (k : Nat) : (lettersK p k).length = k := by simp [lettersK]

theorem letters_any (p : PassV) (w : World) (h1 : 1 ≤ p.f) (h2 : p.f ≤ 12) (h3 : 1 ≤ p.t) (h4 : p.t ≤ 12) (hz : p.way.size ≤ 64) (hA : ∀ k, k < p.way.size → byteAt p.way k < 128) :
    Calls Tryz.prog 91 #[.agg #[.int .i64 p.f, .int .i64 p.t, .string p.way]] w fun r w' => ∃ v, r = .returned v ∧ OwnI w.heap.size w' v (lettersL p) ∧ Below w.heap.size w w' := by
  go_enter Tryz.func91, Tryz.ntmps91
  go_wp2_with fail
  go_loopw [3, 4, 5, 6] (fun v _ _ _ wr => ∃ k : Nat, k ≤ p.way.size ∧ wr.heap[w.heap.size + 1]? = some (.stringIter p.way k) ∧ OwnI (w.heap.size + 2) wr v (lettersK p k) ∧ wr.cell? ⟨w.heap.size, 0, none⟩ = some (.int .i64 p.f) ∧ wr.cell? ⟨w.heap.size, 1, none⟩ = some (.int .i64 p.t) ∧ Below w.heap.size w wr ∧ w.heap.size + 2 ≤ wr.heap.size)
    (fun _ _ _ _ wr => p.way.size - posOf wr (w.heap.size + 1))
  case atStart =>
    refine ⟨0, by omega, ?_, own_nil cIntS, ?_, ?_, ?_, ?_⟩
    · have := World.iter_heap (w.alloc (.cells #[.int .i64 p.f, .int .i64 p.t, .string p.way] 78)) p.way 0
      simpa using this
    · simp [World.iter, go_sem]
    · simp [World.iter, go_sem]
    · exact bal (bal (Below.refl _ _) _) _
    · simp [World.iter]
  case round =>
    obtain ⟨k, hk, hit, hO, hc0, hc1, hbr, hsz⟩ := hrel
    have hlen := lettersK_len p k
    have hle : (lettersK p k).length ≤ 64 := by omega
    have HLEN := hid hlen; clear hlen
    have hpos := posOf_eq hit
    have HPOS := hid hpos; clear hpos
    have HIT := hid hit; clear hit
    by_cases hlt : k < p.way.size
    · have hasc := hA k hlt
      have HASC := hid hasc; clear hasc
      have hsu := lettersK_succ p k
      have HSU := hid hsu; clear hsu
      by_cases hu : byteAt p.way k = 117
      · have hub : (byteAt p.way k == 117) = true := by rw [hu]; rfl
        have HU := hid hu; clear hu
        by_cases hd : p.t < p.f
        · have hL : letterAt p k = -((k : Int) + 1 - p.f) := by rw [letterAt, hub, if_pos rfl, if_pos hd]
          have HL := hid hL; clear hL
          go_wp2_with (first | (((with_reducible refine wpList_nextS (w.heap.size + 1) (p.way) (k) (HIT.out) (hlt) (HASC.out) (by with_unfolding_all rfl) ?_); intro w2 hi2 hg2 hs2); have hd0 := hg2.cell hc0 (by simp); have hd1 := hg2.cell hc1 (by simp); have ho2 := hO.kept hg2 (.inr (fun e => by have := (hO.lt _ e).1; omega)); have HI2 := hid hi2; clear hi2) | ((with_reducible refine wpList_app (l := (lettersK p k)) (ys := [(-((k : Int) + 1 - p.f))]) E_ints (by with_unfolding_all rfl) (by with_unfolding_all rfl) ((ho2).alloc _) (reps_new1 cIntS ((-((k : Int) + 1 - p.f))) _ _ (by simp) rfl) cIntO (by simp; omega) (by first | omega | (simp; omega)) (by simp; omega) ?_); intro v3 w3 ho3 hg3 hat3))
          have hb2 := hbr.grown hg2 (by omega) (fun j hj => by cases hj; omega)
          have hi3 : w3.heap[w.heap.size + 1]? = some (.stringIter p.way (k + 1)) := (hg3.block _ (by simp; omega) (fun e => by have := (ho2.lt _ e.symm).1; omega)).trans ((Below.heap_alloc _ _ _ (by omega)).trans HI2.out)
          have q0 := hg3.cell (((Below.refl _ _).alloc (Nat.le_refl _) (.cells #[.int .i64 (-((k : Int) + 1 - p.f))] 3)).cell (p := ⟨w.heap.size, 0, none⟩) (by simp; omega) |>.trans hd0) (fun e => by have := (ho2.lt _ e.symm).1; simp at this; omega)
          have q1 := hg3.cell (((Below.refl _ _).alloc (Nat.le_refl _) (.cells #[.int .i64 (-((k : Int) + 1 - p.f))] 3)).cell (p := ⟨w.heap.size, 1, none⟩) (by simp; omega) |>.trans hd1) (fun e => by have := (ho2.lt _ e.symm).1; simp at this; omega)
          have b3 := below_own' (bal hb2 (.cells #[.int .i64 (-((k : Int) + 1 - p.f))] 3)) hg3 (ho2.alloc _) (by omega) (by simp; omega)
          have z3 := hg3.size
          simp at z3
          exact ⟨⟨k + 1, by omega, hi3, by rw [HSU.out, HL.out]; exact ho3, q0, q1, b3, by omega⟩, by rw [posOf_eq hi3, HPOS.out]; omega⟩
        · have hL : letterAt p k = -(p.f + (k : Int)) := by rw [letterAt, hub, if_pos rfl, if_neg hd]
          have HL := hid hL; clear hL
          go_wp2_with (first | (((with_reducible refine wpList_nextS (w.heap.size + 1) (p.way) (k) (HIT.out) (hlt) (HASC.out) (by with_unfolding_all rfl) ?_); intro w2 hi2 hg2 hs2); have hd0 := hg2.cell hc0 (by simp); have hd1 := hg2.cell hc1 (by simp); have ho2 := hO.kept hg2 (.inr (fun e => by have := (hO.lt _ e).1; omega)); have HI2 := hid hi2; clear hi2) | ((with_reducible refine wpList_app (l := (lettersK p k)) (ys := [(-(p.f + (k : Int)))]) E_ints (by with_unfolding_all rfl) (by with_unfolding_all rfl) ((ho2).alloc _) (reps_new1 cIntS ((-(p.f + (k : Int)))) _ _ (by simp) rfl) cIntO (by simp; omega) (by first | omega | (simp; omega)) (by simp; omega) ?_); intro v3 w3 ho3 hg3 hat3))
          have hb2 := hbr.grown hg2 (by omega) (fun j hj => by cases hj; omega)
          have hi3 : w3.heap[w.heap.size + 1]? = some (.stringIter p.way (k + 1)) := (hg3.block _ (by simp; omega) (fun e => by have := (ho2.lt _ e.symm).1; omega)).trans ((Below.heap_alloc _ _ _ (by omega)).trans HI2.out)
          have q0 := hg3.cell (((Below.refl _ _).alloc (Nat.le_refl _) (.cells #[.int .i64 (-(p.f + (k : Int)))] 3)).cell (p := ⟨w.heap.size, 0, none⟩) (by simp; omega) |>.trans hd0) (fun e => by have := (ho2.lt _ e.symm).1; simp at this; omega)
          have q1 := hg3.cell (((Below.refl _ _).alloc (Nat.le_refl _) (.cells #[.int .i64 (-(p.f + (k : Int)))] 3)).cell (p := ⟨w.heap.size, 1, none⟩) (by simp; omega) |>.trans hd1) (fun e => by have := (ho2.lt _ e.symm).1; simp at this; omega)
          have b3 := below_own' (bal hb2 (.cells #[.int .i64 (-(p.f + (k : Int)))] 3)) hg3 (ho2.alloc _) (by omega) (by simp; omega)
          have z3 := hg3.size
          simp at z3
          exact ⟨⟨k + 1, by omega, hi3, by rw [HSU.out, HL.out]; exact ho3, q0, q1, b3, by omega⟩, by rw [posOf_eq hi3, HPOS.out]; omega⟩
      · have hub : (byteAt p.way k == 117) = false := by simpa using hu
        clear hu
        by_cases hd : p.t < p.f
        · have hL : letterAt p k = ((k : Int) + 1 - p.f) := by rw [letterAt, hub, if_neg (by simp), if_pos hd]
          have HL := hid hL; clear hL
          go_wp2_with (first | (((with_reducible refine wpList_nextS (w.heap.size + 1) (p.way) (k) (HIT.out) (hlt) (HASC.out) (by with_unfolding_all rfl) ?_); intro w2 hi2 hg2 hs2); have hd0 := hg2.cell hc0 (by simp); have hd1 := hg2.cell hc1 (by simp); have ho2 := hO.kept hg2 (.inr (fun e => by have := (hO.lt _ e).1; omega)); have HI2 := hid hi2; clear hi2) | ((with_reducible refine wpList_app (l := (lettersK p k)) (ys := [(((k : Int) + 1 - p.f))]) E_ints (by with_unfolding_all rfl) (by with_unfolding_all rfl) ((ho2).alloc _) (reps_new1 cIntS ((((k : Int) + 1 - p.f))) _ _ (by simp) rfl) cIntO (by simp; omega) (by first | omega | (simp; omega)) (by simp; omega) ?_); intro v3 w3 ho3 hg3 hat3))
          have hb2 := hbr.grown hg2 (by omega) (fun j hj => by cases hj; omega)
          have hi3 : w3.heap[w.heap.size + 1]? = some (.stringIter p.way (k + 1)) := (hg3.block _ (by simp; omega) (fun e => by have := (ho2.lt _ e.symm).1; omega)).trans ((Below.heap_alloc _ _ _ (by omega)).trans HI2.out)
          have q0 := hg3.cell (((Below.refl _ _).alloc (Nat.le_refl _) (.cells #[.int .i64 (((k : Int) + 1 - p.f))] 3)).cell (p := ⟨w.heap.size, 0, none⟩) (by simp; omega) |>.trans hd0) (fun e => by have := (ho2.lt _ e.symm).1; simp at this; omega)
          have q1 := hg3.cell (((Below.refl _ _).alloc (Nat.le_refl _) (.cells #[.int .i64 (((k : Int) + 1 - p.f))] 3)).cell (p := ⟨w.heap.size, 1, none⟩) (by simp; omega) |>.trans hd1) (fun e => by have := (ho2.lt _ e.symm).1; simp at this; omega)
          have b3 := below_own' (bal hb2 (.cells #[.int .i64 (((k : Int) + 1 - p.f))] 3)) hg3 (ho2.alloc _) (by omega) (by simp; omega)
          have z3 := hg3.size
          simp at z3
          exact ⟨⟨k + 1, by omega, hi3, by rw [HSU.out, HL.out]; exact ho3, q0, q1, b3, by omega⟩, by rw [posOf_eq hi3, HPOS.out]; omega⟩
        · have hL : letterAt p k = (p.f + (k : Int)) := by rw [letterAt, hub, if_neg (by simp), if_neg hd]
          have HL := hid hL; clear hL
          go_wp2_with (first | (((with_reducible refine wpList_nextS (w.heap.size + 1) (p.way) (k) (HIT.out) (hlt) (HASC.out) (by with_unfolding_all rfl) ?_); intro w2 hi2 hg2 hs2); have hd0 := hg2.cell hc0 (by simp); have hd1 := hg2.cell hc1 (by simp); have ho2 := hO.kept hg2 (.inr (fun e => by have := (hO.lt _ e).1; omega)); have HI2 := hid hi2; clear hi2) | ((with_reducible refine wpList_app (l := (lettersK p k)) (ys := [((p.f + (k : Int)))]) E_ints (by with_unfolding_all rfl) (by with_unfolding_all rfl) ((ho2).alloc _) (reps_new1 cIntS (((p.f + (k : Int)))) _ _ (by simp) rfl) cIntO (by simp; omega) (by first | omega | (simp; omega)) (by simp; omega) ?_); intro v3 w3 ho3 hg3 hat3))
          have hb2 := hbr.grown hg2 (by omega) (fun j hj => by cases hj; omega)
          have hi3 : w3.heap[w.heap.size + 1]? = some (.stringIter p.way (k + 1)) := (hg3.block _ (by simp; omega) (fun e => by have := (ho2.lt _ e.symm).1; omega)).trans ((Below.heap_alloc _ _ _ (by omega)).trans HI2.out)
          have q0 := hg3.cell (((Below.refl _ _).alloc (Nat.le_refl _) (.cells #[.int .i64 ((p.f + (k : Int)))] 3)).cell (p := ⟨w.heap.size, 0, none⟩) (by simp; omega) |>.trans hd0) (fun e => by have := (ho2.lt _ e.symm).1; simp at this; omega)
          have q1 := hg3.cell (((Below.refl _ _).alloc (Nat.le_refl _) (.cells #[.int .i64 ((p.f + (k : Int)))] 3)).cell (p := ⟨w.heap.size, 1, none⟩) (by simp; omega) |>.trans hd1) (fun e => by have := (ho2.lt _ e.symm).1; simp at this; omega)
          have b3 := below_own' (bal hb2 (.cells #[.int .i64 ((p.f + (k : Int)))] 3)) hg3 (ho2.alloc _) (by omega) (by simp; omega)
          have z3 := hg3.size
          simp at z3
          exact ⟨⟨k + 1, by omega, hi3, by rw [HSU.out, HL.out]; exact ho3, q0, q1, b3, by omega⟩, by rw [posOf_eq hi3, HPOS.out]; omega⟩
    · have : k = p.way.size := by omega
      subst this
      go_wp2_with (with_reducible refine wpList_endS (w.heap.size + 1) (p.way) (p.way.size) (HIT.out) (hlt) (by with_unfolding_all rfl) ?_)
      go_ret
      exact ⟨_, rfl, hO.mono (by omega), hbr⟩
end Go.Proofs.YtmomeggnegcheaaGreatDoor
