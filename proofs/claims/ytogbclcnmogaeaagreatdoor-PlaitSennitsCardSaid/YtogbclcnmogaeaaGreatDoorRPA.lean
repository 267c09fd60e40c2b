/- Contracts of the reference: ShortPasses, CheckPasses. Conditions: slices readable, sizes as stated. Contract of the reference: CheckPasses. Conditions: slices readable, sizes as stated. Contracts of the reference: Letters, Word. Conditions: passes that CheckPasses accepts. -/
import Derived.Test.YtogbclcnmogaeaaGreatDoorRE
import Derived.Test.YtogbclcnmogaeaaGreatDoorRF
import Derived.Test.YtogbclcnmogaeaaGreatDoorPaB
import Derived.Test.YtogbclcnmogaeaaGreatDoorRyA
set_option linter.all false
/- Contracts of the reference: ShortPasses, CheckPasses. Conditions: slices readable, sizes as stated. -/
namespace Go.Proofs.YtogbclcnmogaeaaGreatDoor
open Go.RowKit
set_option maxHeartbeats 2000000
set_option maxRecDepth 100000

theorem trimS_all {l cs : List UInt8} (h : ∀ x ∈ l, cs.contains x = true) : Lib.trimS l cs = [] := by
  have e : Lib.trimRightS l cs = [] := by
    have := Lib.trimRightS_take l cs 0 (Nat.zero_le _) (fun j b _ hb => h b (List.mem_of_getElem? hb)) (fun b hb _ => by omega)
    simpa using this
  unfold Lib.trimS
  rw [e]
  rfl
theorem trimOU_all {s : ByteArray} (h : ∀ k, k < s.size → byteAt s k = 111 ∨ byteAt s k = 117) : trimOU s = ⟨#[]⟩ := by
  unfold trimOU
  rw [trimS_all]
  intro x hx
  obtain ⟨i, hi, rfl⟩ := List.getElem_of_mem hx
  have hi2 : i < s.size := by simpa using hi
  have := h i hi2
  rw [byteAt_in hi2, ByteArray.getElem_eq_getElem_data] at this
  simp
  rcases this with h | h
  · left; exact UInt8.toNat_inj.1 (show _ = 111 by omega)
  · right; exact UInt8.toNat_inj.1 (show _ = 117 by omega)

def shortPB (l : List PassV) : Bool := shortM l.length && l.all (fun p => decide (p.way.size ≤ 20))
theorem rShortPasses_any (a : Option Addr) (cap : Nat) (l : List PassV) (w : World) (hS : PassesR w a cap l) :
    Calls Tryz.prog 54 #[.slice a l.length cap] w fun r w' => r = .returned (.bool (shortPB l)) ∧ Below w.heap.size w w' := by
  have hcap := hS.le
  have hm := hS.max
  cases hM : shortM l.length
  · have e : shortPB l = false := by unfold shortPB; rw [hM]; rfl
    rw [e]
    have h1 : 40 < l.length ∧ (l.length ≤ 1000 ∨ 1002 < l.length) := by
      simp only [shortM, Bool.or_eq_false_iff, Bool.and_eq_false_iff, decide_eq_false_iff_not] at hM; omega
    clear hM e
    obtain ⟨h1, h2⟩ := h1
    by_cases h3 : l.length ≤ 1000
    · go_enter Tryz.func54, Tryz.ntmps54
      go_wp2
      go_ret
      exact ⟨rfl, Below.refl _ _⟩
    · have h4 : 1002 < l.length := by omega
      go_enter Tryz.func54, Tryz.ntmps54
      go_wp2
      go_ret
      exact ⟨rfl, Below.refl _ _⟩
  · have h1 : l.length ≤ 40 ∨ (1000 < l.length ∧ l.length ≤ 1002) := by
      simp only [shortM, Bool.or_eq_true, Bool.and_eq_true, decide_eq_true_eq] at hM; omega
    have eB : shortPB l = l.all (fun p => decide (p.way.size ≤ 20)) := by unfold shortPB; rw [hM]; rfl
    obtain ⟨B, hB⟩ : ∃ B, B = shortPB l := ⟨_, rfl⟩
    rw [← hB] at eB ⊢
    have HB := hid eB
    clear eB hB hM
    rcases h1 with h1 | ⟨h1, h2⟩
    all_goals
      go_enter Tryz.func54, Tryz.ntmps54
      go_wp2
      go_loopw [3] (fun i wr => ∃ k : Nat, k ≤ l.length ∧ i = .int .i64 k ∧ (l.take k).all (fun p => decide (p.way.size ≤ 20)) = true ∧ Below w.heap.size w wr) (fun i _ => l.length - (intOf i).toNat)
      case atStart => exact ⟨0, by omega, rfl, rfl, Below.refl _ _⟩
      case round =>
        obtain ⟨k, hk, rfl, hno, hbr⟩ := hrel
        have hR := hS.below hbr
        by_cases hlt : k < l.length
        · have ht := take_step pass0 l k hlt
          have HT := hid ht; have HNO := hid hno; clear ht hno
          obtain ⟨b', o', rfl, hcs⟩ := hR.cells (by decide) pass0 k hlt
          have k2 := hcs 2 (.string (atD pass0 l k).way) rfl
          clear hcs
          by_cases hw : (atD pass0 l k).way.size ≤ 20
          · have hno2 : (l.take (k + 1)).all (fun p => decide (p.way.size ≤ 20)) = true := by rw [HT.out, List.all_append, HNO.out]; simp [hw]
            have HN2 := hid hno2; clear hno2
            go_wp2_with fail
            go_roundw
            case rel => exact ⟨k + 1, by omega, by go_num, HN2.out, hbr⟩
            case measure => simp [intOf]; omega
          · have hf : B = false := by
              rw [HB.out, List.all_eq_false]
              exact ⟨atD pass0 l k, by simp [atD, hlt], by simpa using hw⟩
            have HF := hid hf; clear hf
            go_wp2_with fail
            go_ret
            exact ⟨by rw [HF.out]; rfl, hbr⟩
        · have : k = l.length := by omega
          subst this
          rw [List.take_length] at hno
          have hf : B = true := by rw [HB.out, hno]
          have HF := hid hf; clear hf hno
          go_wp2_with fail
          go_ret
          exact ⟨by rw [HF.out]; rfl, hbr⟩
end Go.Proofs.YtogbclcnmogaeaaGreatDoor

/- Contract of the reference: CheckPasses. Conditions: slices readable, sizes as stated. -/
namespace Go.Proofs.YtogbclcnmogaeaaGreatDoor
open Go.RowKit
set_option maxHeartbeats 2000000
set_option maxRecDepth 100000

theorem rCheckPasses_any (n : Int) (a : Option Addr) (cap : Nat) (l : List PassV) (w : World) (hS : PassesR w a cap l) (hl : l.length ≤ 1048576) (hw : ∀ p ∈ l, p.way.size ≤ 1048576) :
    Calls Tryz.prog 58 #[.int .i64 n, .slice a l.length cap] w fun r w' => r = .returned (.int .i64 (passesE n l)) ∧ Below w.heap.size w w' := by
  have hcap := hS.le
  have hm := hS.max
  cases hb0 : btw n 2 12
  · have e : passesE n l = 3 := by unfold passesE; rw [if_pos (by simp [btw] at hb0; omega)]
    rw [e]
    have H0 := hid hb0; clear hb0 e hw
    go_enter Tryz.func58, Tryz.ntmps58
    go_wp2_with fail
    refine (rbetween_any _ _ _ _).mono ?_; rw [H0.out]; rintro e w' ⟨rfl, rfl⟩
    go_wp2_with fail
    go_ret
    exact ⟨rfl, Below.refl _ _⟩
  · have hn : 2 ≤ n ∧ n ≤ 12 := btw_true.1 hb0
    obtain ⟨hn1, hn2⟩ := hn
    have H0 := hid hb0; clear hb0
    by_cases hl2 : 1000 < l.length
    · have e : passesE n l = 5 := by unfold passesE; rw [if_neg (by omega), if_pos hl2]
      rw [e]
      clear e hw
      go_enter Tryz.func58, Tryz.ntmps58
      go_wp2_with fail
      refine (rbetween_any _ _ _ _).mono ?_; rw [H0.out]; rintro e w' ⟨rfl, rfl⟩
      go_wp2_with fail
      go_ret
      exact ⟨rfl, Below.refl _ _⟩
    · have e : passesE n l = passesGo n l := by unfold passesE; rw [if_neg (by omega), if_neg hl2]
      obtain ⟨E, hE⟩ : ∃ E, E = passesE n l := ⟨_, rfl⟩
      rw [← hE] at e ⊢
      have HE := hid e; have HW := hid hw; clear e hE hw
      go_enter Tryz.func58, Tryz.ntmps58
      go_wp2_with fail
      refine (rbetween_any _ _ _ _).mono ?_; rw [H0.out]; rintro e w' ⟨rfl, rfl⟩
      go_wp2_with fail
      go_loopw [5, 6, 7] (fun i _ _ wr => ∃ k : Nat, k ≤ l.length ∧ i = .int .i64 k ∧ passesGo n (l.drop k) = E ∧ Below w.heap.size w wr) (fun i _ _ _ => l.length - (intOf i).toNat)
      case atStart => exact ⟨0, by omega, rfl, by rw [HE.out]; rfl, Below.refl _ _⟩
      case round =>
        obtain ⟨k, hk, rfl, hgo, hbr⟩ := hrel
        have hSr := hS.below hbr
        by_cases hlt : k < l.length
        · have hstep := passesGo_step n l k hlt
          rw [hgo] at hstep
          have hsz : (atD pass0 l k).way.size ≤ 1048576 := HW.out _ (by simp [atD, hlt])
          obtain ⟨f, hf⟩ : ∃ f, f = (atD pass0 l k).f := ⟨_, rfl⟩
          obtain ⟨t, ht⟩ : ∃ t, t = (atD pass0 l k).t := ⟨_, rfl⟩
          obtain ⟨s, hs⟩ : ∃ s, s = (atD pass0 l k).way := ⟨_, rfl⟩
          have hp : atD pass0 l k = ⟨f, t, s⟩ := by rw [hf, ht, hs]
          rw [hp] at hstep
          rw [← hs] at hsz
          have HST := hid hstep; have HF := hid hf; have HT := hid ht; have HY := hid hs; have HGO := hid hgo
          clear hstep hf ht hs hp hgo
          have b1 : Below w.heap.size w (wr.alloc (.cells #[.int .i64 f, .int .i64 t, .string s] 99)) := bal hbr _
          go_wp2_with (with_reducible refine wpList_idxS _ pass0 E_rpasses F_rpass cPass1 (by with_unfolding_all rfl) (by with_unfolding_all rfl) (hSr) (by first | omega | (simp; done)) (by first | omega | (simp; done)) (fun _ => by with_unfolding_all rfl) (fun _ => ?_))
          rw [← HF.out, ← HT.out, ← HY.out]
          cases h1 : btw f 1 n
          · have e : E = 3 := by
              have e1 : passE n ⟨f, t, s⟩ = 3 := by unfold passE; rw [if_pos (by simp [btw] at h1 ⊢; omega)]
              rw [HST.out, e1]; rfl
            have HE1 := hid e; have H1 := hid h1; clear e h1
            refine (rbetween_any _ _ _ _).mono ?_; rw [H1.out]; rintro e w' ⟨rfl, rfl⟩
            go_wp2_with fail
            go_ret
            exact ⟨by rw [HE1.out]; rfl, b1⟩
          · cases h2 : btw t 1 n
            · have e : E = 3 := by
                have e1 : passE n ⟨f, t, s⟩ = 3 := by unfold passE; rw [if_pos (by simp [btw] at h2 ⊢; omega)]
                rw [HST.out, e1]; rfl
              have HE1 := hid e; have H1 := hid h1; have H2 := hid h2; clear e h1 h2
              refine (rbetween_any _ _ _ _).mono ?_; rw [H1.out]; rintro e w' ⟨rfl, rfl⟩
              go_wp2_with fail
              refine (rbetween_any _ _ _ _).mono ?_; rw [H2.out]; rintro e w' ⟨rfl, rfl⟩
              go_wp2_with fail
              go_ret
              exact ⟨by rw [HE1.out]; rfl, b1⟩
            · have g1 := btw_true.1 h1
              have g2 := btw_true.1 h2
              obtain ⟨f1, f2⟩ := g1
              obtain ⟨t1, t2⟩ := g2
              have H1 := hid h1; have H2 := hid h2; clear h1 h2
              by_cases h3 : t = f
              · have e : E = 9 := by
                  have e1 : passE n ⟨f, t, s⟩ = 9 := by unfold passE; rw [if_neg (by simp; omega), if_pos h3]
                  rw [HST.out, e1]; rfl
                have HE1 := hid e; clear e
                have h3' : (f == t) = true := by simpa using h3.symm
                clear h3
                refine (rbetween_any _ _ _ _).mono ?_; rw [H1.out]; rintro e w' ⟨rfl, rfl⟩
                go_wp2_with fail
                refine (rbetween_any _ _ _ _).mono ?_; rw [H2.out]; rintro e w' ⟨rfl, rfl⟩
                go_wp2_with fail
                go_ret
                exact ⟨by rw [HE1.out]; rfl, b1⟩
              · have hd : distP ⟨f, t, s⟩ = max (f - t) (t - f) := by unfold distP; simp only; split <;> omega
                have h3' : (f == t) = false := by simp; omega
                by_cases h4 : (s.size : Int) = max (f - t) (t - f)
                · have h4' : ((s.size : Int) != max (f - t) (t - f)) = false := by simpa using h4
                  have hdz : (s.size : Int) = distP ⟨f, t, s⟩ := by rw [hd]; exact h4
                  have HDZ := hid hdz; have H3 := hid h3; clear h4 hd hdz h3
                  refine (rbetween_any _ _ _ _).mono ?_; rw [H1.out]; rintro e w' ⟨rfl, rfl⟩
                  go_wp2_with fail
                  refine (rbetween_any _ _ _ _).mono ?_; rw [H2.out]; rintro e w' ⟨rfl, rfl⟩
                  go_wp2_with fail
                  have c2 : (wr.alloc (.cells #[.int .i64 f, .int .i64 t, .string s] 99)).cell? ⟨wr.heap.size, 2, none⟩ = some (.string s) := by simp [go_sem]
                  obtain ⟨W, hW⟩ : ∃ W, W = wr.alloc (.cells #[.int .i64 f, .int .i64 t, .string s] 99) := ⟨_, rfl⟩
                  rw [← hW] at c2 b1 ⊢
                  have hWl : wr.heap.size < W.heap.size := by rw [hW]; simp
                  clear hW
                  obtain ⟨H, hH⟩ : ∃ H, H = wr.heap.size := ⟨_, rfl⟩
                  rw [← hH] at c2 hWl ⊢
                  clear hH
                  go_loopw [7] (fun j wq => ∃ m : Nat, m ≤ s.size ∧ j = .int .i64 m ∧ (∀ q, q < m → byteAt s q = 111 ∨ byteAt s q = 117) ∧ Below W.heap.size W wq) (fun j _ => s.size - (intOf j).toNat)
                  case atStart => exact ⟨0, by omega, rfl, fun q hq => by omega, Below.refl _ _⟩
                  case round =>
                    obtain ⟨m, hm2, rfl, hall, hbq⟩ := hrel
                    have k2 : wr.cell? ⟨H, 2, none⟩ = some (.string s) := (hbq.cell (p := ⟨H, 2, none⟩) hWl).trans c2
                    have HA := hid hall; clear hall
                    by_cases hml : m < s.size
                    · have hb := byteAt_in hml
                      have next : (byteAt s m = 111 ∨ byteAt s m = 117) → ∀ q, q < m + 1 → byteAt s q = 111 ∨ byteAt s q = 117 := fun h q hq => by
                        by_cases e : q = m
                        · subst e; exact h
                        · exact HA.out q (by omega)
                      by_cases c1 : ((s[m]'hml).toNat : Int) = 111
                      · have hn := next (.inl (hb.trans c1))
                        have HN := hid hn; clear hn next hb
                        go_wp2_with fail
                        all_goals exact ⟨⟨m + 1, by omega, by go_num, HN.out, hbq⟩, by simp [intOf]; omega⟩
                      · by_cases c3 : ((s[m]'hml).toNat : Int) = 117
                        · have hn := next (.inr (hb.trans c3))
                          have HN := hid hn; clear hn next hb
                          go_wp2_with fail
                          all_goals exact ⟨⟨m + 1, by omega, by go_num, HN.out, hbq⟩, by simp [intOf]; omega⟩
                        · have e1 : passE n ⟨f, t, s⟩ = 1 := by
                            unfold passE
                            rw [if_neg (by simp; omega), if_neg H3.out, if_neg (fun h => h HDZ.out), if_pos]
                            intro h
                            have := trimOU_nil h m hml
                            rw [hb] at this
                            omega
                          have e : E = 1 := by rw [HST.out, e1]; rfl
                          have HE1 := hid e; clear e e1 hb next
                          have d1 : (((s[m]'hml).toNat : Int) != 111) = true := by simpa using c1
                          have d2 : (((s[m]'hml).toNat : Int) != 117) = true := by simpa using c3
                          go_wp2_with fail
                          go_ret
                          exact ⟨by rw [HE1.out]; rfl, bnext b1 hbq⟩
                    · have : m = s.size := by omega
                      subst this
                      have e0 : passE n ⟨f, t, s⟩ = 0 := by
                        unfold passE
                        rw [if_neg (by simp; omega), if_neg H3.out, if_neg (fun h => h HDZ.out), if_neg (fun h => h (trimOU_all HA.out))]
                      have hst := HST.out
                      rw [e0, if_neg (fun h => h rfl)] at hst
                      have HS2 := hid hst; clear hst e0
                      go_wp2_with fail
                      go_roundw
                      case rel => exact ⟨k + 1, by omega, by go_num, HS2.out.symm, bnext b1 hbq⟩
                      case measure => simp [intOf]; omega
                · have e : E = 2 := by
                    have e1 : passE n ⟨f, t, s⟩ = 2 := by unfold passE; rw [if_neg (by simp; omega), if_neg h3, if_pos (by rw [hd]; exact h4)]
                    rw [HST.out, e1]; rfl
                  have HE1 := hid e; clear e hd h3
                  have h4' : ((s.size : Int) != max (f - t) (t - f)) = true := by simpa using h4
                  refine (rbetween_any _ _ _ _).mono ?_; rw [H1.out]; rintro e w' ⟨rfl, rfl⟩
                  go_wp2_with fail
                  refine (rbetween_any _ _ _ _).mono ?_; rw [H2.out]; rintro e w' ⟨rfl, rfl⟩
                  go_wp2_with fail
                  go_ret
                  exact ⟨by rw [HE1.out]; rfl, b1⟩
        · have : k = l.length := by omega
          subst this
          have e : E = 0 := by rw [← hgo]; simp [passesGo]
          have HE1 := hid e; clear e hgo
          go_wp2_with fail
          go_ret
          exact ⟨by rw [HE1.out]; rfl, hbr⟩
end Go.Proofs.YtogbclcnmogaeaaGreatDoor

/- Contracts of the reference: Letters, Word. Conditions: passes that CheckPasses accepts. -/
namespace Go.Proofs.YtogbclcnmogaeaaGreatDoor
open Go.RowKit
set_option maxHeartbeats 2000000
set_option maxRecDepth 100000

theorem rLetters_any (f t : Int) (s : ByteArray) (w : World) (h1 : 1 ≤ f) (h2 : f ≤ 12) (h3 : 1 ≤ t) (h4 : t ≤ 12) (hz : s.size ≤ 64) :
    Calls Tryz.prog 84 #[.agg #[.int .i64 f, .int .i64 t, .string s]] w fun r w' => ∃ v, r = .returned v ∧ OwnI w.heap.size w' v (lettersL ⟨f, t, s⟩) ∧ Below w.heap.size w w' := by
  go_enter Tryz.func84, Tryz.ntmps84
  go_wp2_with fail
  obtain ⟨W, hW⟩ : ∃ W, W = w.alloc (.cells #[.int .i64 f, .int .i64 t, .string s] 99) := ⟨_, rfl⟩
  obtain ⟨H, hH⟩ : ∃ H, H = w.heap.size := ⟨_, rfl⟩
  have c0 : W.cell? ⟨H, 0, none⟩ = some (.int .i64 f) := by rw [hW, hH]; simp [go_sem]
  have c1 : W.cell? ⟨H, 1, none⟩ = some (.int .i64 t) := by rw [hW, hH]; simp [go_sem]
  have c2 : W.cell? ⟨H, 2, none⟩ = some (.string s) := by rw [hW, hH]; simp [go_sem]
  have hWs : W.heap.size = H + 1 := by rw [hW, hH]; simp
  have bW : Below H w W := by rw [hH, hW]; exact bal (Below.refl _ _) _
  rw [← hW, ← hH]
  have HH := hid hH
  clear hW hH
  have hWl : H < W.heap.size := by omega
  have HWS := hid hWs; clear hWs
  go_loopw [3, 4, 5] (fun v i _ wr => ∃ k : Nat, k ≤ s.size ∧ i = .int .i64 k ∧ OwnI W.heap.size wr v (lettersK ⟨f, t, s⟩ k) ∧ Below W.heap.size W wr) (fun _ i _ _ => s.size - (intOf i).toNat)
  case atStart => exact ⟨0, by omega, rfl, own_nil cIntS, Below.refl _ _⟩
  case round =>
    obtain ⟨k, hk, rfl, hO, hbr⟩ := hrel
    have k0 : wr.cell? ⟨H, 0, none⟩ = some (.int .i64 f) := (hbr.cell (p := ⟨H, 0, none⟩) hWl).trans c0
    have k1 : wr.cell? ⟨H, 1, none⟩ = some (.int .i64 t) := (hbr.cell (p := ⟨H, 1, none⟩) hWl).trans c1
    have k2 : wr.cell? ⟨H, 2, none⟩ = some (.string s) := (hbr.cell (p := ⟨H, 2, none⟩) hWl).trans c2
    have hle : (lettersK ⟨f, t, s⟩ k).length ≤ 64 := by rw [lettersK_len]; omega
    have hbs := hbr.size
    by_cases hlt : k < s.size
    · have hs := lettersK_succ ⟨f, t, s⟩ k
      have hb := byteAt_in hlt
      obtain ⟨o, ho⟩ : ∃ o, o = lettersK ⟨f, t, s⟩ k := ⟨_, rfl⟩
      rw [← ho] at hs hO hle
      have HS := hid hs; clear hs ho
      by_cases ct : t < f
      · by_cases cu : ((s[k]'hlt).toNat : Int) = 117
        · have e : letterAt ⟨f, t, s⟩ k = f - 1 - k := by
            unfold letterAt; simp only; rw [hb, if_pos (by simpa using cu), if_pos ct]; omega
          have HE := hid e; clear e hb
          have d1 : (((s[k]'hlt).toNat : Int) == 117) = true := by simpa using cu
          clear cu
          go_wp2_with (first | ((with_reducible refine wpList_app (l := o) (ys := [(f - 1 - (k : Int))]) E_ints (by with_unfolding_all rfl) (by with_unfolding_all rfl) ((hO).alloc _) (reps_new1 cIntS ((f - 1 - (k : Int))) _ _ (by simp) rfl) cIntO (by simp; omega) (by first | omega | (simp; omega)) (by simp; omega) ?_); intro v3 w3 ho3 hg3 hat3))
          exact ⟨⟨k + 1, by omega, by go_num, by rw [HS.out, HE.out]; exact ho3, below_own (bal hbr (.cells #[.int .i64 (f - 1 - (k : Int))] 3)) hg3 (hO.alloc _) (Nat.le_refl _)⟩, by simp [intOf]; omega⟩
        · have e : letterAt ⟨f, t, s⟩ k = -(f - 1 - k) := by
            unfold letterAt; simp only; rw [hb, if_neg (by simpa using cu), if_pos ct]; omega
          have HE := hid e; clear e hb
          have d1 : (((s[k]'hlt).toNat : Int) == 117) = false := by simpa using cu
          go_wp2_with (first | ((with_reducible refine wpList_app (l := o) (ys := [(-(f - 1 - (k : Int)))]) E_ints (by with_unfolding_all rfl) (by with_unfolding_all rfl) ((hO).alloc _) (reps_new1 cIntS ((-(f - 1 - (k : Int)))) _ _ (by simp) rfl) cIntO (by simp; omega) (by first | omega | (simp; omega)) (by simp; omega) ?_); intro v3 w3 ho3 hg3 hat3))
          exact ⟨⟨k + 1, by omega, by go_num, by rw [HS.out, HE.out]; exact ho3, below_own (bal hbr (.cells #[.int .i64 (-(f - 1 - (k : Int)))] 3)) hg3 (hO.alloc _) (Nat.le_refl _)⟩, by simp [intOf]; omega⟩
      · by_cases cu : ((s[k]'hlt).toNat : Int) = 117
        · have e : letterAt ⟨f, t, s⟩ k = -(f + k) := by
            unfold letterAt; simp only; rw [hb, if_pos (by simpa using cu), if_neg ct]
          have HE := hid e; clear e hb
          have d1 : (((s[k]'hlt).toNat : Int) == 117) = true := by simpa using cu
          clear cu
          go_wp2_with (first | ((with_reducible refine wpList_app (l := o) (ys := [(-(f + (k : Int)))]) E_ints (by with_unfolding_all rfl) (by with_unfolding_all rfl) ((hO).alloc _) (reps_new1 cIntS ((-(f + (k : Int)))) _ _ (by simp) rfl) cIntO (by simp; omega) (by first | omega | (simp; omega)) (by simp; omega) ?_); intro v3 w3 ho3 hg3 hat3))
          exact ⟨⟨k + 1, by omega, by go_num, by rw [HS.out, HE.out]; exact ho3, below_own (bal hbr (.cells #[.int .i64 (-(f + (k : Int)))] 3)) hg3 (hO.alloc _) (Nat.le_refl _)⟩, by simp [intOf]; omega⟩
        · have e : letterAt ⟨f, t, s⟩ k = f + k := by
            unfold letterAt; simp only; rw [hb, if_neg (by simpa using cu), if_neg ct]
          have HE := hid e; clear e hb
          have d1 : (((s[k]'hlt).toNat : Int) == 117) = false := by simpa using cu
          go_wp2_with (first | ((with_reducible refine wpList_app (l := o) (ys := [(f + (k : Int))]) E_ints (by with_unfolding_all rfl) (by with_unfolding_all rfl) ((hO).alloc _) (reps_new1 cIntS ((f + (k : Int))) _ _ (by simp) rfl) cIntO (by simp; omega) (by first | omega | (simp; omega)) (by simp; omega) ?_); intro v3 w3 ho3 hg3 hat3))
          exact ⟨⟨k + 1, by omega, by go_num, by rw [HS.out, HE.out]; exact ho3, below_own (bal hbr (.cells #[.int .i64 (f + (k : Int))] 3)) hg3 (hO.alloc _) (Nat.le_refl _)⟩, by simp [intOf]; omega⟩
    · have : k = s.size := by omega
      subst this
      go_wp2_with fail
      go_ret
      have e := HH.out
      subst e
      exact ⟨_, rfl, hO.mono (by omega), bW.trans (hbr.mono (by omega))⟩

theorem rLettersP_any (p : PassV) (w : World) (h1 : 1 ≤ p.f) (h2 : p.f ≤ 12) (h3 : 1 ≤ p.t) (h4 : p.t ≤ 12) (hz : p.way.size ≤ 64) :
    Calls Tryz.prog 84 #[.agg #[.int .i64 p.f, .int .i64 p.t, .string p.way]] w fun r w' => ∃ v, r = .returned v ∧ OwnI w.heap.size w' v (lettersL p) ∧ Below w.heap.size w w' :=
  rLetters_any p.f p.t p.way w h1 h2 h3 h4 hz

theorem rWord_any (n : Int) (a : Option Addr) (cap : Nat) (l : List PassV) (w : World) (hS : PassesR w a cap l) (hn : n ≤ 12) (hl : l.length ≤ 1000) (hall : ∀ p ∈ l, passE n p = 0) :
    Calls Tryz.prog 60 #[.slice a l.length cap] w fun r w' => ∃ v, r = .returned v ∧ OwnI w.heap.size w' v (lettersAll l) ∧ Below w.heap.size w w' := by
  have hcap := hS.le
  have hm := hS.max
  have HA := hid hall; clear hall
  go_enter Tryz.func60, Tryz.ntmps60
  go_wp2_with fail
  go_loopw [3, 4] (fun v i wr => ∃ k : Nat, k ≤ l.length ∧ i = .int .i64 k ∧ (lettersAll (l.take k)).length ≤ 11 * k ∧ SL w.heap.size w wr [pOwn cInt 1 3 v (lettersAll (l.take k))]) (fun _ i _ => l.length - (intOf i).toNat)
  case atStart => exact ⟨0, by omega, rfl, by simp [lettersAll], (SL.nil w).nilS cIntS⟩
  case round =>
    obtain ⟨k, hk, rfl, hlen, hSL⟩ := hrel
    have hSr := hS.below hSL.b
    by_cases hlt : k < l.length
    · have hs := lettersAll_step l k hlt
      have HS := hid hs; clear hs
      obtain ⟨z1, z2, z3, z4⟩ := passE_small hn (HA.out (atD pass0 l k) (by simp [atD, hlt]))
      obtain ⟨y1, y2, y3, y4, _, _, _⟩ := passE_zero (HA.out (atD pass0 l k) (by simp [atD, hlt]))
      have hlt3 := fun w => rLettersP_any (atD pass0 l k) w y1 z1 y3 z2 (by omega)
      have hle : (lettersL (atD pass0 l k)).length ≤ 11 := by rw [lettersL_len]; exact z3
      have HLT := hid hlt3; clear hlt3 z4
      go_wp2_with (with_reducible refine wpList_idxS _ pass0 E_rpasses F_rpass cPass1 (by with_unfolding_all rfl) (by with_unfolding_all rfl) (hSr) (by first | omega | (simp; done)) (by first | omega | (simp; done)) (fun _ => by with_unfolding_all rfl) (fun _ => ?_))
      refine (HLT.out _).mono ?_
      rintro e w2 ⟨v2, rfl, ho2, hb2⟩
      have hS2 := hSL.call (SL.ofOwn ho2 hb2)
      obtain ⟨a2, cap2, rfl, hr2⟩ := hS2.slice 0 rfl
      go_wp2_with ((with_reducible refine wpList_appL 1 E_ints (by with_unfolding_all rfl) (by with_unfolding_all rfl) (hS2) (by with_unfolding_all rfl) (hr2) (rfl) cIntO (by first | omega | (simp; omega)) (by first | omega | (simp; omega)) ?_); intro v3 w3 hS3)
      refine ⟨⟨k + 1, by omega, by go_num, by rw [HS.out, List.length_append]; omega, by rw [HS.out]; exact hS3.tail⟩, by simp [intOf]; omega⟩
    · have : k = l.length := by omega
      subst this
      rw [List.take_length] at hSL hlen
      go_wp2_with fail
      go_ret
      exact ⟨_, rfl, hSL.own 0 rfl, hSL.b⟩
end Go.Proofs.YtogbclcnmogaeaaGreatDoor
