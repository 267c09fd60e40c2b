/- What awake computes, at its fixed arguments: facts on closed values. No condition. Contract: awake returns true. No condition. -/
import Derived.Test.YtmomeggnegcheaaGreatDoorLtA
import Derived.Test.YtmomeggnegcheaaGreatDoorSpA
import Derived.Test.YtmomeggnegcheaaGreatDoorRoA
import Derived.Test.YtmomeggnegcheaaGreatDoorAlA
import Derived.Test.YtmomeggnegcheaaGreatDoorTxA
import Derived.Test.YtmomeggnegcheaaGreatDoorPs1
import Derived.Test.YtmomeggnegcheaaGreatDoorSnA
import Derived.Test.YtmomeggnegcheaaGreatDoorPnA
set_option linter.all false
/- What awake computes, at its fixed arguments: facts on closed values. No condition. -/
namespace Go.Proofs.YtmomeggnegcheaaGreatDoor
open Go.RowKit
set_option maxRecDepth 100000
deriving instance DecidableEq for PassV
def pO : ByteArray := ⟨#[111]⟩
def pOU : ByteArray := ⟨#[111, 117]⟩
def awP : List PassV := [⟨1, 2, pO⟩, ⟨3, 2, pO⟩]
theorem aw1 : nextE standX 0 2 = 0 := by decide +kernel
theorem aw1b : nextL standX 0 2 = [0, 2, 1, 0, 3, 4, 0, 0] := by decide +kernel
theorem aw2 : checkStand standX = 0 := by decide +kernel
theorem aw2b : legalN standX 0 1 = 3 := by decide +kernel
theorem aw3 : roundE standX roundX = 0 := by decide +kernel
theorem aw3b : RoundL standX roundX = [1, 4, 2, 3, 5, 0, 6, 7] := by decide +kernel
theorem aw4 : roundsE standX roundX = 0 := by decide +kernel
theorem aw4b : roundsB standX roundX = ⟨#[52]⟩ := by decide +kernel
theorem aw4c : periodN (RoundL standX roundX) < 100 := by decide +kernel
theorem aw5 : spansE standX [(0, 2)] = 0 := by decide +kernel
theorem aw5b : spansL standX [(0, 2)] = [1] := by decide +kernel
theorem aw6 : turnedL standX (4 % standX.length) = [3, 4, 0, 0, 1, 2, 0, 0] := by decide +kernel
theorem aw7 : alikeE standX [3, 4, 0, 0, 1, 2, 0, 0] = 0 := by decide +kernel
theorem aw7b : alikeN standX [3, 4, 0, 0, 1, 2, 0, 0] = 4 := by decide +kernel
theorem aw8 : printE roundX = 0 := by decide +kernel
theorem aw8b : printB roundX = ⟨#[49, 45, 51, 32, 53, 45, 55, 32, 48, 45, 49, 32, 52, 45, 53, 32, 51, 45, 52, 32, 55, 45, 48]⟩ := by decide +kernel
theorem aw9 : wordErr 3 awP = 0 := by decide +kernel
theorem aw9b : wordL 3 awP = [1, -2] := by decide +kernel
theorem aw10 : wordE 3 [1, -2] = 0 := by decide +kernel
theorem aw10b : crossL 3 [1, -2] = [(1, 2), (3, 1)] := by decide +kernel
theorem aw11 : altB 3 [1, -2] = 0 := by decide +kernel
theorem aw12 : senE 4 2 = 0 := by decide +kernel
theorem aw12b : senL 4 2 = [⟨1, 3, pOU⟩, ⟨4, 2, pOU⟩] := by decide +kernel
theorem aw13 : rptE 3 awP = 0 := by decide +kernel
theorem aw13b : rptB 3 awP = ⟨#[51]⟩ := by decide +kernel
theorem aw13c : periodN (endsP 3 awP) < 100 := by decide +kernel
theorem aw14 : passL 3 [1, -2] = [⟨1, 3, pOU⟩] := by decide +kernel
theorem aw15 : matE 4 6 = 0 := by decide +kernel
theorem aw15b : (Int.gcd 4 6 : Int) = 2 := by decide +kernel
theorem aw16 : routeE 4 6 1 = 0 := by decide +kernel
theorem aw16b : routeL 4 6 1 = [1, 5, 3] := by decide +kernel
theorem aw17 : matE 3 2 = 0 := by decide +kernel
theorem aw17b : matL 3 2 = [⟨#[47, 47]⟩, ⟨#[92, 92]⟩] := by decide +kernel
theorem aw18 : headE 3 2 = 0 := by decide +kernel
theorem aw18b : headL 3 2 = [1, -2, 1, -2] := by decide +kernel

section
variable {P : Program} {ops : Array Oper} {rest : List Oper} {a : Act} {α : Type} {c : α → Value} {sz bytes n : Nat} {t e : TypeId} {z : Value} {ad : Option Addr} {cap : Nat} {l : List α} {k : Int}
  {d1 d2 : Tmp} {ty1 ty2 : TypeId} {p1 p2 : String} {s x : Operand} {af1 af2 : Array Edge} {g1 g2 : Option (Nat × Bool)} {w : World}
/-- the load of an element that is known, guarded. -/
theorem wpList_idxSG {Q : Exit → Act → World → Prop} (d : α) (V : Value) (E : ETy P t e z sz bytes) (hF : Aggr P e) (hc : ∀ x, c x = .agg (c x).cells)
   (hs : a.eval s = .slice ad n cap) (hx : a.eval x = .int .i64 k) (hR : Reps c sz w ad cap l) (hn : l.length = n) (h0 : 0 ≤ k) (hlt : k < n) (hV : c (atD d l k) = V) (hd : ∀ p, (a.put (some d1) p).eval (.tmp d1) = p)
   (hw1 : Region.wanted ⟨some d1, .indexAddr t s x, ty1, p1, af1, g1⟩ (yielded ops a.tmps) = true) (hw2 : ∀ p, Region.wanted ⟨some d2, .load e (.tmp d1), ty2, p2, af2, g2⟩ (yielded ops (a.put (some d1) p).tmps) = true)
   (hK : ∀ p, wpList P ops Q rest ((a.put (some d1) p).put (some d2) V) w) :
   wpList P ops Q (⟨some d1, .indexAddr t s x, ty1, p1, af1, g1⟩ :: ⟨some d2, .load e (.tmp d1), ty2, p2, af2, g2⟩ :: rest) a w := by
  subst hn hV
  obtain ⟨p, hr1, hr2⟩ := run_idx_agg d E hF hR hc h0 hlt
  refine wpList_step fun K hK' => ?_
  rw [if_pos hw1]
  unfold Oper.wp
  simp only [execOp, hs, hx]
  simp [hr1, Result.andThen]
  refine hK' _ _ (wpList_step fun K2 hK2 => ?_)
  rw [if_pos (hw2 _)]
  unfold Oper.wp
  simp only [execOp, hd]
  simp [hr2, Result.andThen]
  exact hK2 _ _ (hK _)
end
/-- a slice and the error 0 came back. -/
def RetOk {α : Type} (c : α → Value) (sz : Nat) (W : World) (L : List α) (n : Nat) (r : Ending) (w' : World) : Prop :=
  ∃ a cap, r = .returned (.tuple #[.slice a n cap, .int .i64 0]) ∧ Reps c sz w' a cap L ∧ Below W.heap.size W w'
theorem RetOk.ofLE {W w' : World} {L L' : List Int} {e : Int} {r : Ending} (n : Nat) (h : RetLE W L e r w') (e1 : L = L') (e2 : e = 0) (e3 : L'.length = n) : RetOk cInt 1 W L' n r w' := by
  subst e1 e2 e3
  obtain ⟨a, cap, h1, h2, _, h4⟩ := h
  exact ⟨a, cap, h1, h2, h4⟩
theorem inIs {l : List Int} (h : l.all (fun x => decide (-1000 ≤ x) && decide (x ≤ 1000)) = true) : ∀ x ∈ l, InI x := by
  intro x hx
  have := List.all_eq_true.1 h x hx
  simp at this
  unfold InI; omega
theorem awStand (w : World) : Calls Tryz.prog 37 #[] w fun r w' => ∃ a cap, r = .returned (.slice a 8 cap) ∧ Ints w' a cap standX ∧ Below w.heap.size w w' := by
  refine (stand_any w).mono ?_
  rintro e w' ⟨v, rfl, hO, hb⟩
  obtain ⟨a, cap, rfl, hr, _⟩ := hO.reps
  exact ⟨a, cap, rfl, hr, hb⟩
theorem awRound (w : World) : Calls Tryz.prog 39 #[] w fun r w' => ∃ a cap, r = .returned (.slice a 6 cap) ∧ Pairs w' a cap roundX ∧ Below w.heap.size w w' := by
  refine (roundX_any w).mono ?_
  rintro e w' ⟨v, rfl, hO, hb⟩
  obtain ⟨a, cap, rfl, hr, _⟩ := hO.reps
  exact ⟨a, cap, rfl, hr, hb⟩
theorem inX : ∀ x ∈ standX, InI x := inIs (by decide)
theorem awNext (a : Option Addr) (cap : Nat) (w : World) (h : Ints w a cap standX) : Calls Tryz.prog 36 #[.slice a 8 cap, .agg #[.int .i64 0, .int .i64 2]] w fun r w' => RetOk cInt 1 w [0, 2, 1, 0, 3, 4, 0, 0] 8 r w' := by
  refine (Next_any 0 2 a cap standX w h inX (by decide)).mono ?_
  rintro e w' ⟨v, rfl, hO, hb⟩
  rw [aw1, if_pos rfl, aw1b] at hO
  obtain ⟨a, cap, rfl, hr, _⟩ := hO.reps
  exact ⟨a, cap, by rw [aw1]; rfl, hr, hb⟩
theorem awLegal (a : Option Addr) (cap : Nat) (w : World) (h : Ints w a cap standX) : Calls Tryz.prog 38 #[.slice a 8 cap, .agg #[.int .i64 0, .int .i64 1]] w fun r w' => r = .returned (.tuple #[.int .i64 3, .int .i64 0]) ∧ Below w.heap.size w w' := by
  have := Legal_any 0 1 a cap standX w h inX
  rw [aw2, if_pos rfl, aw2b] at this
  exact this
theorem awRoundP (a a2 : Option Addr) (cap cap2 : Nat) (w : World) (h : Ints w a cap standX) (h2 : Pairs w a2 cap2 roundX) : Calls Tryz.prog 10 #[.slice a 8 cap, .slice a2 6 cap2] w fun r w' => RetOk cInt 1 w [1, 4, 2, 3, 5, 0, 6, 7] 8 r w' :=
  (Round_any a a2 cap cap2 standX roundX w h h2 inX (by decide)).mono fun _ _ h => .ofLE _ h aw3b aw3 rfl
theorem awRounds (a a2 : Option Addr) (cap cap2 : Nat) (w : World) (h : Ints w a cap standX) (h2 : Pairs w a2 cap2 roundX) : Calls Tryz.prog 13 #[.slice a 8 cap, .slice a2 6 cap2] w fun r w' => r = .returned (.tuple #[.string ⟨#[52]⟩, .int .i64 0]) ∧ Below w.heap.size w w' := by
  have := Rounds_any a a2 cap cap2 standX roundX w h h2 inX (by decide) (fun _ _ => itoaOk_small w _ (by omega) (by have := aw4c; omega))
  rw [aw4, aw4b] at this
  exact this
theorem awSpans (a a2 : Option Addr) (cap cap2 : Nat) (w : World) (h : Ints w a cap standX) (h2 : Pairs w a2 cap2 [(0, 2)]) : Calls Tryz.prog 14 #[.slice a 8 cap, .slice a2 1 cap2] w fun r w' => RetOk cInt 1 w [1] 1 r w' :=
  (Spans_any a a2 cap cap2 standX [(0, 2)] w h h2 inX (by decide)).mono fun _ _ h => .ofLE _ h aw5b aw5 rfl
theorem awTurned (a : Option Addr) (cap : Nat) (w : World) (h : Ints w a cap standX) : Calls Tryz.prog 29 #[.slice a 8 cap, .int .i64 4] w fun r w' => RetOk cInt 1 w [3, 4, 0, 0, 1, 2, 0, 0] 8 r w' :=
  (Turned_any 4 a cap standX w h inX (by unfold InI; omega)).mono fun _ _ h => .ofLE _ h (by rw [aw2, if_pos rfl, aw6]) aw2 rfl
theorem awAlike (a a2 : Option Addr) (cap cap2 : Nat) (w : World) (h : Ints w a cap standX) (h2 : Ints w a2 cap2 [3, 4, 0, 0, 1, 2, 0, 0]) : Calls Tryz.prog 40 #[.slice a 8 cap, .slice a2 8 cap2] w fun r w' => r = .returned (.tuple #[.int .i64 4, .int .i64 0]) ∧ Below w.heap.size w w' := by
  have := Alike_any a a2 cap cap2 standX [3, 4, 0, 0, 1, 2, 0, 0] w h h2 inX (inIs (by decide)) (by decide) (by decide)
  rw [aw7, aw7b] at this
  exact this
theorem awPrint (a : Option Addr) (cap : Nat) (w : World) (h : Pairs w a cap roundX) : Calls Tryz.prog 30 #[.slice a 6 cap] w fun r w' => r = .returned (.tuple #[.string ⟨#[49, 45, 51, 32, 53, 45, 55, 32, 48, 45, 49, 32, 52, 45, 53, 32, 51, 45, 52, 32, 55, 45, 48]⟩, .int .i64 0]) ∧ Below w.heap.size w w' := by
  have := PrintMoves_any a cap roundX w h (by decide) (fun m hm _ => by
    have : 0 ≤ m.1 ∧ m.1 < 100 ∧ 0 ≤ m.2 ∧ m.2 < 100 := by
      revert m; decide
    exact ⟨itoaOk_small w _ this.1 this.2.1, itoaOk_small w _ this.2.2.1 this.2.2.2⟩)
  rw [aw8, aw8b] at this
  exact this
theorem awWord (a : Option Addr) (cap : Nat) (w : World) (h : PassesR w a cap awP) : Calls Tryz.prog 41 #[.int .i64 3, .slice a 2 cap] w fun r w' => RetOk cInt 1 w [1, -2] 2 r w' :=
  (Word_any 3 a cap awP w h (by decide) (by decide)).mono fun _ _ h => .ofLE _ h aw9b aw9 rfl
theorem awCrosses (a : Option Addr) (cap : Nat) (w : World) (h : Ints w a cap [1, -2]) : Calls Tryz.prog 42 #[.int .i64 3, .slice a 2 cap] w fun r w' => RetOk cPair 2 w [(1, 2), (3, 1)] 2 r w' := by
  refine (Crosses_any 3 a cap [1, -2] w h (by decide)).mono ?_
  rintro e w' ⟨a, cap, rfl, hr, _, hb⟩
  rw [aw10b] at hr
  exact ⟨a, cap, by rw [aw10b, aw10]; rfl, hr, hb⟩
theorem awAlternates (a : Option Addr) (cap : Nat) (w : World) (h : Ints w a cap [1, -2]) : Calls Tryz.prog 43 #[.int .i64 3, .slice a 2 cap] w fun r w' => r = .returned (.tuple #[.int .i64 0, .int .i64 0]) ∧ Below w.heap.size w w' := by
  have := Alternates_any 3 a cap [1, -2] w h (by decide)
  rw [aw11, aw10] at this
  exact this
theorem awSennit (w : World) : Calls Tryz.prog 44 #[.int .i64 4, .int .i64 2] w fun r w' => RetOk cPass 3 w [⟨1, 3, pOU⟩, ⟨4, 2, pOU⟩] 2 r w' := by
  refine (Sennit_any 4 2 w).mono ?_
  rintro e w' ⟨a, cap, rfl, hr, _, hb⟩
  rw [aw12b] at hr
  exact ⟨a, cap, by rw [aw12b, aw12]; rfl, hr, hb⟩
theorem awRepeat (a : Option Addr) (cap : Nat) (w : World) (h : PassesR w a cap awP) : Calls Tryz.prog 45 #[.int .i64 3, .slice a 2 cap] w fun r w' => r = .returned (.tuple #[.string ⟨#[51]⟩, .int .i64 0]) ∧ Below w.heap.size w w' := by
  have := Repeat_passes 3 a cap awP w h (by decide) (by decide) (fun _ _ => itoaOk_small w _ (by omega) (by have := aw13c; omega))
  rw [aw13, aw13b] at this
  exact this
theorem awPasses (a : Option Addr) (cap : Nat) (w : World) (h : Ints w a cap [1, -2]) : Calls Tryz.prog 46 #[.int .i64 3, .slice a 2 cap] w fun r w' => RetOk cPass 3 w [⟨1, 3, pOU⟩] 1 r w' := by
  refine (Passes_any 3 a cap [1, -2] w h (by decide)).mono ?_
  rintro e w' ⟨a, cap, rfl, hr, _, hb⟩
  rw [aw14] at hr
  exact ⟨a, cap, by rw [aw14, aw10]; rfl, hr, hb⟩
theorem awStrands (w : World) : Calls Tryz.prog 47 #[.int .i64 4, .int .i64 6] w fun r w' => r = .returned (.tuple #[.int .i64 2, .int .i64 0]) ∧ Below w.heap.size w w' := by
  have := Strands_any 4 6 w
  rw [aw15, if_pos rfl, aw15b] at this
  exact this
theorem awRoute (w : World) : Calls Tryz.prog 48 #[.int .i64 4, .int .i64 6, .int .i64 1] w fun r w' => RetOk cInt 1 w [1, 5, 3] 3 r w' :=
  (Route_any 4 6 1 w).mono fun _ _ h => .ofLE _ h (by rw [aw16, if_pos rfl, aw16b]) aw16 rfl
theorem awMat (w : World) : Calls Tryz.prog 49 #[.int .i64 3, .int .i64 2] w fun r w' => RetOk cStr 1 w [⟨#[47, 47]⟩, ⟨#[92, 92]⟩] 2 r w' := by
  refine (Mat_any 3 2 w).mono ?_
  rintro e w' ⟨a, cap, rfl, hr, _, hb⟩
  rw [aw17b] at hr
  exact ⟨a, cap, by rw [aw17b, aw17]; rfl, hr, hb⟩
theorem awHead (w : World) : Calls Tryz.prog 50 #[.int .i64 3, .int .i64 2] w fun r w' => RetOk cInt 1 w [1, -2, 1, -2] 4 r w' :=
  (Head_any 3 2 w).mono fun _ _ h => .ofLE _ h aw18b aw18 rfl
theorem awSame (a a2 : Option Addr) (cap cap2 n : Nat) (l : List Int) (w : World) (h : Ints w a cap l) (h2 : Ints w a2 cap2 l) (hn : l.length = n) (hs : n ≤ 100) : Calls Tryz.prog 20 #[.slice a n cap, .slice a2 n cap2] w fun r w' => r = .returned (.bool true) ∧ Below w.heap.size w w' := by
  subst hn
  have := SameInts_any a a2 cap cap2 l l w h h2 (by omega)
  rw [decide_eq_true rfl] at this
  exact this
theorem awSameW (a a2 : Option Addr) (cap cap2 n : Nat) (l : List ByteArray) (w : World) (h : Strs w a cap l) (h2 : Strs w a2 cap2 l) (hn : l.length = n) (hs : n ≤ 100) : Calls Tryz.prog 51 #[.slice a n cap, .slice a2 n cap2] w fun r w' => r = .returned (.bool true) ∧ Below w.heap.size w w' := by
  subst hn
  have := SameWords_any a a2 cap cap2 l l w h h2 (by omega)
  rw [decide_eq_true rfl] at this
  exact this
end Go.Proofs.YtmomeggnegcheaaGreatDoor

/- Contract: awake returns true. No condition. -/
namespace Go.Proofs.YtmomeggnegcheaaGreatDoor
open Go.RowKit
set_option maxHeartbeats 2000000
set_option maxRecDepth 100000

theorem awake_any (w : World) : Calls Tryz.prog 9 #[] w fun r w' => r = .returned (.bool true) ∧ Below w.heap.size w w' := by
  go_enter Tryz.func9, Tryz.ntmps9
  go_wp2_with fail
  refine (awStand w).mono ?_
  rintro e w1 ⟨a1, c1, rfl, h1, b1⟩
  go_wp2_with fail
  refine (awNext a1 c1 w1 h1).mono ?_
  rintro e w2 ⟨a2, c2, rfl, h2, b2⟩
  go_wp2_with fail
  refine (awStand w2).mono ?_
  rintro e w3 ⟨a3, c3, rfl, h3, b3⟩
  go_wp2_with fail
  refine (awLegal a3 c3 w3 h3).mono ?_
  rintro e w4 ⟨rfl, b4⟩
  go_wp2_with fail
  refine (awStand w4).mono ?_
  rintro e w5 ⟨a5, c5, rfl, h5, b5⟩
  go_wp2_with fail
  refine (awRound w5).mono ?_
  rintro e w6 ⟨a6, c6, rfl, h6, b6⟩
  go_wp2_with fail
  refine (awRoundP a5 a6 c5 c6 w6 (h5.below b6) h6).mono ?_
  rintro e w7 ⟨a7, c7, rfl, h7, b7⟩
  go_wp2_with fail
  refine (awStand w7).mono ?_
  rintro e w8 ⟨a8, c8, rfl, h8, b8⟩
  go_wp2_with fail
  refine (awRound w8).mono ?_
  rintro e w9 ⟨a9, c9, rfl, h9, b9⟩
  go_wp2_with fail
  refine (awRounds a8 a9 c8 c9 w9 (h8.below b9) h9).mono ?_
  rintro e w10 ⟨rfl, b10⟩
  go_wp2_with fail
  refine (awStand w10).mono ?_
  rintro e w11 ⟨a11, c11, rfl, h11, b11⟩
  go_wp2_with fail
  refine (awSpans a11 _ c11 1 _ (h11.below (bal (Below.refl _ _) _)) (reps_of_own (own_newN cPairS [(0, 2)] 1 rfl (by decide) _ rfl (Nat.le_refl _) rfl) rfl)).mono ?_
  rintro e w12 ⟨a12, c12, rfl, h12, b12⟩
  replace b12 := bnext (bal (Below.refl _ _) _) b12
  go_wp2_with fail
  refine (awStand w12).mono ?_
  rintro e w13 ⟨a13, c13, rfl, h13, b13⟩
  go_wp2_with fail
  refine (awTurned a13 c13 w13 h13).mono ?_
  rintro e w14 ⟨a14, c14, rfl, h14, b14⟩
  go_wp2_with fail
  refine (awStand w14).mono ?_
  rintro e w15 ⟨a15, c15, rfl, h15, b15⟩
  go_wp2_with fail
  refine (awAlike a15 _ c15 8 _ (h15.below (bal (Below.refl _ _) _)) (reps_of_own (own_newN cIntS [3, 4, 0, 0, 1, 2, 0, 0] 8 rfl (by decide) _ rfl (Nat.le_refl _) rfl) rfl)).mono ?_
  rintro e w16 ⟨rfl, b16⟩
  replace b16 := bnext (bal (Below.refl _ _) _) b16
  go_wp2_with fail
  refine (awRound w16).mono ?_
  rintro e w17 ⟨a17, c17, rfl, h17, b17⟩
  go_wp2_with fail
  refine (awPrint a17 c17 w17 h17).mono ?_
  rintro e w18 ⟨rfl, b18⟩
  have t14 := bnext b15 (bnext b16 (bnext b17 b18))
  have t12 := bnext b13 (bnext b14 t14)
  have t7 := bnext b8 (bnext b9 (bnext b10 (bnext b11 (bnext b12 t12))))
  have t2 := bnext b3 (bnext b4 (bnext b5 (bnext b6 (bnext b7 t7))))
  have t0 := bnext b1 (bnext b2 t2)
  replace h2 := h2.below t2
  replace h7 := h7.below t7
  replace h12 := h12.below t12
  replace h14 := h14.below t14
  clear b1 b2 b3 b4 b5 b6 b7 b8 b9 b10 b11 b12 b13 b14 b15 b16 b17 b18 t14 t12 t7 t2 h1 h3 h5 h6 h8 h9 h11 h13 h15 h17
  go_wp2_with fail
  refine (awSame a2 _ c2 8 8 _ _ (h2.below (bal (Below.refl _ _) _)) (reps_of_own (own_newN cIntS [0, 2, 1, 0, 3, 4, 0, 0] 8 rfl (by decide) _ rfl (Nat.le_refl _) rfl) rfl) rfl (by decide)).mono ?_
  rintro e w19 ⟨rfl, b19⟩
  replace b19 := bnext (bal (Below.refl _ _) _) b19
  go_wp2_with fail
  refine (awSame a7 _ c7 8 8 _ _ ((h7.below b19).below (bal (Below.refl _ _) _)) (reps_of_own (own_newN cIntS [1, 4, 2, 3, 5, 0, 6, 7] 8 rfl (by decide) _ rfl (Nat.le_refl _) rfl) rfl) rfl (by decide)).mono ?_
  rintro e w20 ⟨rfl, b20⟩
  replace b20 := bnext b19 (bnext (bal (Below.refl _ _) _) b20)
  go_wp2_with fail
  refine (awSame a12 _ c12 1 1 _ _ ((h12.below b20).below (bal (Below.refl _ _) _)) (reps_of_own (own_newN cIntS [1] 1 rfl (by decide) _ rfl (Nat.le_refl _) rfl) rfl) rfl (by decide)).mono ?_
  rintro e w21 ⟨rfl, b21⟩
  replace b21 := bnext b20 (bnext (bal (Below.refl _ _) _) b21)
  go_wp2_with fail
  refine (awSame a14 _ c14 8 8 _ _ ((h14.below b21).below (bal (Below.refl _ _) _)) (reps_of_own (own_newN cIntS [3, 4, 0, 0, 1, 2, 0, 0] 8 rfl (by decide) _ rfl (Nat.le_refl _) rfl) rfl) rfl (by decide)).mono ?_
  rintro e w22 ⟨rfl, b22⟩
  replace b22 := bnext t0 (bnext b21 (bnext (bal (Below.refl _ _) _) b22))
  clear b19 b20 b21 t0 h2 h7 h12 h14
  go_wp2_with fail
  have hp := reps_of_own (own_newN (e := 78) (w := w22) cPassS awP 2 rfl (by decide) _ rfl (Nat.le_refl _) rfl) rfl
  have b23 := bal (Below.refl w22.heap.size w22) (.cells #[.int .i64 1, .int .i64 2, .string ⟨#[111]⟩, .int .i64 3, .int .i64 2, .string ⟨#[111]⟩] 78)
  refine (awWord _ 2 _ hp).mono ?_
  rintro e w24 ⟨a24, c24, rfl, h24, b24⟩
  replace hp := hp.below b24
  replace b24 := bnext b22 (bnext b23 b24)
  clear b22 b23
  go_wp2_with fail
  refine (awCrosses a24 c24 w24 h24).mono ?_
  rintro e w25 ⟨a25, c25, rfl, h25, b25⟩
  go_wp2_with fail
  refine (awAlternates a24 c24 w25 (h24.below b25)).mono ?_
  rintro e w26 ⟨rfl, b26⟩
  go_wp2_with fail
  refine (awSennit w26).mono ?_
  rintro e w27 ⟨a27, c27, rfl, h27, b27⟩
  have t24 := bnext b25 (bnext b26 b27)
  go_wp2_with fail
  refine (awRepeat _ 2 w27 (hp.below t24)).mono ?_
  rintro e w28 ⟨rfl, b28⟩
  go_wp2_with fail
  refine (awPasses _ 2 _ (reps_of_own (own_newN cIntS [1, -2] 2 rfl (by decide) _ rfl (Nat.le_refl _) rfl) rfl)).mono ?_
  rintro e w29 ⟨a29, c29, rfl, h29, b29⟩
  replace b29 := bnext (bal (Below.refl _ _) _) b29
  replace h24 := h24.below (bnext t24 (bnext b28 b29))
  replace h25 := h25.below (bnext b26 (bnext b27 (bnext b28 b29)))
  replace h27 := h27.below (bnext b28 b29)
  have t0 := bnext b24 (bnext t24 (bnext b28 b29))
  clear b24 b25 b26 b27 b28 b29 hp t24
  go_wp2_with fail
  refine (awSame a24 _ c24 2 2 _ _ (h24.below (bal (Below.refl _ _) _)) (reps_of_own (own_newN cIntS [1, -2] 2 rfl (by decide) _ rfl (Nat.le_refl _) rfl) rfl) rfl (by decide)).mono ?_
  rintro e w30 ⟨rfl, b30⟩
  replace b30 := bnext (bal (Below.refl _ _) _) b30
  replace h25 := h25.below b30
  replace h27 := h27.below b30
  replace h29 := h29.below b30
  replace b30 := bnext t0 b30
  clear t0 h24
  go_wp2_with (first | (with_reducible refine wpList_idxSG (0, 0) (.agg #[.int .i64 3, .int .i64 1]) E_cross F_cross cPair1 (by with_unfolding_all rfl) (by with_unfolding_all rfl) (h25) rfl (by decide) (by decide) rfl (fun _ => by with_unfolding_all rfl) (by with_unfolding_all rfl) (fun _ => by with_unfolding_all rfl) (fun _ => ?_)) | (with_reducible refine wpList_idxSG pass0 (.agg #[.int .i64 4, .int .i64 2, .string ⟨#[111, 117]⟩]) E_passes F_pass cPass1 (by with_unfolding_all rfl) (by with_unfolding_all rfl) (h27) rfl (by decide) (by decide) rfl (fun _ => by with_unfolding_all rfl) (by with_unfolding_all rfl) (fun _ => by with_unfolding_all rfl) (fun _ => ?_)) | (with_reducible refine wpList_idxSG pass0 (.agg #[.int .i64 1, .int .i64 3, .string ⟨#[111, 117]⟩]) E_passes F_pass cPass1 (by with_unfolding_all rfl) (by with_unfolding_all rfl) (h29) rfl (by decide) (by decide) rfl (fun _ => by with_unfolding_all rfl) (by with_unfolding_all rfl) (fun _ => by with_unfolding_all rfl) (fun _ => ?_)))
  refine (awStrands w30).mono ?_
  rintro e w31 ⟨rfl, b31⟩
  go_wp2_with fail
  refine (awRoute w31).mono ?_
  rintro e w32 ⟨a32, c32, rfl, h32, b32⟩
  go_wp2_with fail
  refine (awMat w32).mono ?_
  rintro e w33 ⟨a33, c33, rfl, h33, b33⟩
  go_wp2_with fail
  refine (awHead w33).mono ?_
  rintro e w34 ⟨a34, c34, rfl, h34, b34⟩
  go_wp2_with fail
  refine (awSame a32 _ c32 3 3 _ _ ((h32.below (bnext b33 b34)).below (bal (Below.refl _ _) _)) (reps_of_own (own_newN cIntS [1, 5, 3] 3 rfl (by decide) _ rfl (Nat.le_refl _) rfl) rfl) rfl (by decide)).mono ?_
  rintro e w35 ⟨rfl, b35⟩
  replace b35 := bnext (bal (Below.refl _ _) _) b35
  go_wp2_with fail
  refine (awSameW a33 _ c33 2 2 _ _ ((h33.below (bnext b34 b35)).below (bal (Below.refl _ _) _)) (reps_of_own (own_newN cStrS [⟨#[47, 47]⟩, ⟨#[92, 92]⟩] 2 rfl (by decide) _ rfl (Nat.le_refl _) rfl) rfl) rfl (by decide)).mono ?_
  rintro e w36 ⟨rfl, b36⟩
  replace b36 := bnext b35 (bnext (bal (Below.refl _ _) _) b36)
  go_wp2_with fail
  refine (awSame a34 _ c34 4 4 _ _ ((h34.below b36).below (bal (Below.refl _ _) _)) (reps_of_own (own_newN cIntS [1, -2, 1, -2] 4 rfl (by decide) _ rfl (Nat.le_refl _) rfl) rfl) rfl (by decide)).mono ?_
  rintro e w37 ⟨rfl, b37⟩
  replace b37 := bnext b30 (bnext b31 (bnext b32 (bnext b33 (bnext b34 (bnext b36 (bnext (bal (Below.refl _ _) _) b37))))))
  go_wp2_with fail
  go_ret
  exact ⟨rfl, b37⟩
end Go.Proofs.YtmomeggnegcheaaGreatDoor
