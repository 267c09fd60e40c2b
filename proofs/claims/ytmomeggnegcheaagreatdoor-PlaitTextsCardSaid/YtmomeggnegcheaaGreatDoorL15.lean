/- Contract: PlaitTexts returns true. Conditions: the slice can be read; the tables and errors of strconv are laid. -/
import Derived.Test.YtmomeggnegcheaaGreatDoorTpF
import Derived.Test.YtmomeggnegcheaaGreatDoorAwA
import Derived.Stop.LaidErr
set_option linter.all false
namespace Go.Proofs.YtmomeggnegcheaaGreatDoor
open Go.RowKit
set_option maxHeartbeats 4000000
set_option maxRecDepth 100000

theorem PlaitTexts_any (a : Option Addr) (cap : Nat) (l : List (Int × Int)) (s : ByteArray) (w : World) (hM : Pairs w a cap l) (hw : LibW w) (hs : s.size ≤ 9223372036854775807) :
    Calls Tryz.prog 6 #[.slice a l.length cap, .string s] w fun r w' => r = .returned (.bool true) ∧ Below w.heap.size w w' := by
  have hcap := hM.le
  have hm := hM.max
  cases hsm : shortM l.length
  · have HD2 := hid hsm; clear hsm hw
    go_enter Tryz.func6, Tryz.ntmps6
    go_wp2_with fail
    refine (shortMoves_any _ _ _ _ (by omega)).mono ?_; rw [HD2.out]; rintro e w' ⟨rfl, rfl⟩
    go_wp2_with fail
    refine (awake_any _).mono ?_
    rintro e w' ⟨rfl, hb⟩
    go_wp2_with fail
    go_ret
    exact ⟨rfl, hb⟩
  have hms : l.length ≤ 1002 := by
    simp only [shortM, Bool.or_eq_true, Bool.and_eq_true, decide_eq_true_eq] at hsm; omega
  have HD2 := hid hsm; clear hsm
  by_cases h1 : 400 < s.size ∧ s.size ≤ 4000
  · obtain ⟨g1, g2⟩ := h1
    clear hw
    go_enter Tryz.func6, Tryz.ntmps6
    go_wp2_with fail
    refine (shortMoves_any _ _ _ _ (by omega)).mono ?_; rw [HD2.out]; rintro e w' ⟨rfl, rfl⟩
    go_wp2_with fail
    refine (awake_any _).mono ?_
    rintro e w' ⟨rfl, hb⟩
    go_wp2_with fail
    go_ret
    exact ⟨rfl, hb⟩
  by_cases h2 : 4099 < s.size
  · have g1 : ¬ s.size ≤ 4000 := by omega
    have hd : (decide (400 < (s.size : Int)) && decide ((s.size : Int) ≤ 4000)) = false := by simp; omega
    clear hw h1
    go_enter Tryz.func6, Tryz.ntmps6
    go_wp2_with fail
    refine (shortMoves_any _ _ _ _ (by omega)).mono ?_; rw [HD2.out]; rintro e w' ⟨rfl, rfl⟩
    go_wp2_with fail
    refine (awake_any _).mono ?_
    rintro e w' ⟨rfl, hb⟩
    go_wp2_with fail
    go_ret
    exact ⟨rfl, hb⟩
  have hpar : (s.size ≤ 400) ∨ (400 < s.size ∧ ¬ s.size ≤ 4000) := by omega
  obtain ⟨S, hS⟩ : ∃ S, s = bT S := ⟨s.data.toList, rfl⟩
  have hSl : S.length = s.size := by rw [hS, bT_size]
  have CP := fun (a : Option Addr) (cap : Nat) (w' : World) (hM : Pairs w' a cap l) (hb : Below w.heap.size w w') => PrintMoves_any a cap l w' hM (by omega)
    (fun m _ hb2 => ⟨itoaOk_tab (hw.tab.below hb) _ (by unfold badM at hb2; omega) (by unfold badM at hb2; omega), itoaOk_tab (hw.tab.below hb) _ (by unfold badM at hb2; omega) (by unfold badM at hb2; omega)⟩)
  have CM := fun (a : Option Addr) (cap : Nat) (w : World) => rCheckMoves_any a cap l.length w
  have CQ := fun (w' : World) (hb : Below w.heap.size w w') => ParseMoves_any S w' (hw.below hb) (by omega)
  have CR := fun (w' : World) => rParseMoves_any S w' (by omega)
  rw [← hS] at CQ CR
  have hRl : (parseT S).1.length ≤ 1048576 := by
    have key : ∀ (L : List (List UInt8)) (k : Nat) (acc : List (Int × Int)), (movesGo L k acc).1.length ≤ acc.length + L.length := by
      intro L
      induction L with
      | nil => intro k acc; rw [movesGo]; split <;> simp
      | cons x r ih =>
        intro k acc
        cases hx : wordM x with
        | some m => rw [movesGo_some _ _ _ hx]; have := ih (k + 1) (acc ++ [m]); simp at this ⊢; omega
        | none => rw [movesGo_none _ _ _ hx]; simp
    unfold parseT
    split
    · simp
    · split
      · simp
      · have := key (spl 32 S) 0 []
        have h3 := splR_len 32 S []
        unfold spl at this ⊢
        simp at this
        omega
  obtain ⟨⟨y, wd, er⟩, hY⟩ : ∃ Y, Y = parseT S := ⟨_, rfl⟩
  rw [← hY] at CQ CR hRl
  have HQ := hid CQ; have HR := hid CR
  clear CQ CR hY hS hSl hw
  by_cases hmn : manyE l.length = 0
  · have CX := fun (w : World) (hM : Pairs w a cap l) => rPrintMoves_any a cap l w hM hmn
    rw [hmn] at CM
    obtain ⟨tx, htx⟩ : ∃ t, t = printB l := ⟨_, rfl⟩
    obtain ⟨te, hte⟩ : ∃ t, t = printE l := ⟨_, rfl⟩
    rw [← htx, ← hte] at CP CX
    have HP := hid CP; have HM := hid CM; have HX := hid CX
    clear CP CM CX hmn htx hte
    rcases hpar with g1 | ⟨g1, g2⟩
    · go_enter Tryz.func6, Tryz.ntmps6
      go_wp2_with fail
      refine (shortMoves_any _ _ _ _ (by omega)).mono ?_; rw [HD2.out]; rintro e w' ⟨rfl, rfl⟩
      go_wp2_with fail
      refine (moves_any a cap l _ hM (by omega)).mono ?_
      rintro e w1 ⟨v1, rfl, ho1, b1⟩
      obtain ⟨a1, c1, rfl, h1', _, _⟩ := ho1.reps
      go_wp2_with fail
      refine (HP.out a1 c1 w1 h1' b1).mono ?_
      rintro e w2 ⟨rfl, b2⟩
      have t2 := bnext b1 b2
      clear ho1 h1' b1 b2
      go_wp2_with fail
      refine (HQ.out w2 t2).mono ?_
      rintro e w3 ⟨a3, c3, rfl, hY3, b3⟩
      have t3 := bnext t2 b3
      go_wp2_with fail
      refine (HM.out a cap w3).mono ?_
      rintro e w' ⟨rfl, rfl⟩
      go_wp2_with fail
      refine (HX.out w3 (hM.below t3)).mono ?_
      rintro e w4 ⟨rfl, b4⟩
      go_wp2_with fail
      refine (HR.out w4).mono ?_
      rintro e w5 ⟨a5, c5, rfl, hY5, b5⟩
      go_wp2_with fail
      refine (ownMoves_any a3 c3 y w5 (hY3.below (bnext b4 b5)) hRl).mono ?_
      rintro e w6 ⟨v6, rfl, ho6, b6⟩
      obtain ⟨a6, c6, rfl, h6, _, _⟩ := ho6.reps
      go_wp2_with fail
      refine (SameMoves_same a6 a5 c6 c5 y w6 h6 (hY5.below b6) hRl).mono ?_
      rintro e w7 ⟨rfl, b7⟩
      go_wp2_with fail
      refine (awake_any _).mono ?_
      rintro e w8 ⟨rfl, b8⟩
      go_wp2_with fail
      go_ret
      exact ⟨rfl, bnext t3 (bnext b4 (bnext b5 (bnext b6 (bnext b7 b8))))⟩
    · go_enter Tryz.func6, Tryz.ntmps6
      go_wp2_with fail
      refine (shortMoves_any _ _ _ _ (by omega)).mono ?_; rw [HD2.out]; rintro e w' ⟨rfl, rfl⟩
      go_wp2_with fail
      refine (moves_any a cap l _ hM (by omega)).mono ?_
      rintro e w1 ⟨v1, rfl, ho1, b1⟩
      obtain ⟨a1, c1, rfl, h1', _, _⟩ := ho1.reps
      go_wp2_with fail
      refine (HP.out a1 c1 w1 h1' b1).mono ?_
      rintro e w2 ⟨rfl, b2⟩
      have t2 := bnext b1 b2
      clear ho1 h1' b1 b2
      go_wp2_with fail
      refine (HQ.out w2 t2).mono ?_
      rintro e w3 ⟨a3, c3, rfl, hY3, b3⟩
      have t3 := bnext t2 b3
      go_wp2_with fail
      refine (HM.out a cap w3).mono ?_
      rintro e w' ⟨rfl, rfl⟩
      go_wp2_with fail
      refine (HX.out w3 (hM.below t3)).mono ?_
      rintro e w4 ⟨rfl, b4⟩
      go_wp2_with fail
      refine (HR.out w4).mono ?_
      rintro e w5 ⟨a5, c5, rfl, hY5, b5⟩
      go_wp2_with fail
      refine (ownMoves_any a3 c3 y w5 (hY3.below (bnext b4 b5)) hRl).mono ?_
      rintro e w6 ⟨v6, rfl, ho6, b6⟩
      obtain ⟨a6, c6, rfl, h6, _, _⟩ := ho6.reps
      go_wp2_with fail
      refine (SameMoves_same a6 a5 c6 c5 y w6 h6 (hY5.below b6) hRl).mono ?_
      rintro e w7 ⟨rfl, b7⟩
      go_wp2_with fail
      refine (awake_any _).mono ?_
      rintro e w8 ⟨rfl, b8⟩
      go_wp2_with fail
      go_ret
      exact ⟨rfl, bnext t3 (bnext b4 (bnext b5 (bnext b6 (bnext b7 b8))))⟩
  · have hE : printE l = manyE l.length := by simp [printE, hmn]
    have hB : printB l = ⟨#[]⟩ := by rw [printB, hE, if_neg hmn]
    rw [hE, hB] at CP
    obtain ⟨q, hq⟩ : ∃ q, q = manyE l.length := ⟨_, rfl⟩
    rw [← hq] at CP CM hmn
    have HP := hid CP; have HM := hid CM
    clear CP CM hE hB hq
    rcases hpar with g1 | ⟨g1, g2⟩
    · go_enter Tryz.func6, Tryz.ntmps6
      go_wp2_with fail
      refine (shortMoves_any _ _ _ _ (by omega)).mono ?_; rw [HD2.out]; rintro e w' ⟨rfl, rfl⟩
      go_wp2_with fail
      refine (moves_any a cap l _ hM (by omega)).mono ?_
      rintro e w1 ⟨v1, rfl, ho1, b1⟩
      obtain ⟨a1, c1, rfl, h1', _, _⟩ := ho1.reps
      go_wp2_with fail
      refine (HP.out a1 c1 w1 h1' b1).mono ?_
      rintro e w2 ⟨rfl, b2⟩
      have t2 := bnext b1 b2
      clear ho1 h1' b1 b2
      go_wp2_with fail
      refine (HQ.out w2 t2).mono ?_
      rintro e w3 ⟨a3, c3, rfl, hY3, b3⟩
      have t3 := bnext t2 b3
      go_wp2_with fail
      refine (HM.out a cap w3).mono ?_
      rintro e w' ⟨rfl, rfl⟩
      have b4 := Below.refl w3.heap.size w3
      go_wp2_with fail
      refine (HR.out w3).mono ?_
      rintro e w5 ⟨a5, c5, rfl, hY5, b5⟩
      go_wp2_with fail
      refine (ownMoves_any a3 c3 y w5 (hY3.below (bnext b4 b5)) hRl).mono ?_
      rintro e w6 ⟨v6, rfl, ho6, b6⟩
      obtain ⟨a6, c6, rfl, h6, _, _⟩ := ho6.reps
      go_wp2_with fail
      refine (SameMoves_same a6 a5 c6 c5 y w6 h6 (hY5.below b6) hRl).mono ?_
      rintro e w7 ⟨rfl, b7⟩
      go_wp2_with fail
      refine (awake_any _).mono ?_
      rintro e w8 ⟨rfl, b8⟩
      go_wp2_with fail
      go_ret
      exact ⟨rfl, bnext t3 (bnext b4 (bnext b5 (bnext b6 (bnext b7 b8))))⟩
    · go_enter Tryz.func6, Tryz.ntmps6
      go_wp2_with fail
      refine (shortMoves_any _ _ _ _ (by omega)).mono ?_; rw [HD2.out]; rintro e w' ⟨rfl, rfl⟩
      go_wp2_with fail
      refine (moves_any a cap l _ hM (by omega)).mono ?_
      rintro e w1 ⟨v1, rfl, ho1, b1⟩
      obtain ⟨a1, c1, rfl, h1', _, _⟩ := ho1.reps
      go_wp2_with fail
      refine (HP.out a1 c1 w1 h1' b1).mono ?_
      rintro e w2 ⟨rfl, b2⟩
      have t2 := bnext b1 b2
      clear ho1 h1' b1 b2
      go_wp2_with fail
      refine (HQ.out w2 t2).mono ?_
      rintro e w3 ⟨a3, c3, rfl, hY3, b3⟩
      have t3 := bnext t2 b3
      go_wp2_with fail
      refine (HM.out a cap w3).mono ?_
      rintro e w' ⟨rfl, rfl⟩
      have b4 := Below.refl w3.heap.size w3
      go_wp2_with fail
      refine (HR.out w3).mono ?_
      rintro e w5 ⟨a5, c5, rfl, hY5, b5⟩
      go_wp2_with fail
      refine (ownMoves_any a3 c3 y w5 (hY3.below (bnext b4 b5)) hRl).mono ?_
      rintro e w6 ⟨v6, rfl, ho6, b6⟩
      obtain ⟨a6, c6, rfl, h6, _, _⟩ := ho6.reps
      go_wp2_with fail
      refine (SameMoves_same a6 a5 c6 c5 y w6 h6 (hY5.below b6) hRl).mono ?_
      rintro e w7 ⟨rfl, b7⟩
      go_wp2_with fail
      refine (awake_any _).mono ?_
      rintro e w8 ⟨rfl, b8⟩
      go_wp2_with fail
      go_ret
      exact ⟨rfl, bnext t3 (bnext b4 (bnext b5 (bnext b6 (bnext b7 b8))))⟩
end Go.Proofs.YtmomeggnegcheaaGreatDoor
