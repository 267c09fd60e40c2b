/- Contracts of the reference: Strands and Perm (chapter 5), Ends (chapter 7), Inverse and Cycles (chapter 1). Conditions: slices readable, letters fit, numbers in range. Contract of the reference: Cycles. Conditions: the list is a permutation of at most 100000 numbers. -/
import Derived.Test.YtmomeggnegcheaaGreatDoorEnP
import Derived.Test.YtmomeggnegcheaaGreatDoorRE
import Derived.Test.YtmomeggnegcheaaGreatDoorCyA
import Derived.Test.YtmomeggnegcheaaGreatDoorRlB
set_option linter.all false
/- Contracts of the reference: Strands and Perm (chapter 5), Ends (chapter 7), Inverse and Cycles (chapter 1). Conditions: slices readable, letters fit, numbers in range. -/
namespace Go.Proofs.YtmomeggnegcheaaGreatDoor
open Go.RowKit
set_option maxHeartbeats 4000000
set_option maxRecDepth 100000

end Go.Proofs.YtmomeggnegcheaaGreatDoor

/- Contract of the reference: Cycles. Conditions: the list is a permutation of at most 100000 numbers. -/
namespace Go.Proofs.YtmomeggnegcheaaGreatDoor
open Go.RowKit
set_option maxHeartbeats 4000000
set_option maxRecDepth 100000

theorem rCycles_any (a : Option Addr) (cap : Nat) (p : List Int) (w : World) (hS : Ints w a cap p) (hp : IsP p) (hn : p.length ≤ 100000) :
    Calls Tryz.prog 65 #[.slice a p.length cap] w fun r w' => ∃ (v : Value) (qs : List (SlH × List Int)), r = .returned v ∧ qs.map Prod.snd = cycK p p.length ∧ SL w.heap.size w w' (pOwn cSl 1 22 v (qs.map Prod.fst) :: qs.map inP) := by
  have hcap := hS.le
  have hm0 := hS.max
  have hS0 := SL.nil w
  go_enter Tryz.func65, Tryz.ntmps65
  go_wp2_with ((with_reducible refine wpList_makeL (c := cBool) (p.length) (false) E_bools cBool1 (by with_unfolding_all rfl) (by with_unfolding_all rfl) (by omega) (by omega) (hS0) ?_); intro ad w1 hS1)
  have hS2 := hS1.nilS (α := SlH) (c := cSl) (sz := 1) (e := 22) cSlS
  go_loopw [3, 5, 6, 7] (fun ov i _ _ wr => ∃ (j : Nat) (S : List Bool) (qs : List (SlH × List Int)), j ≤ p.length ∧ i = .int .i64 j ∧ S.length = p.length ∧ (∀ x : Int, 0 ≤ x → x < p.length → atD false S x = decide (x ∈ (cycK p j).flatten)) ∧ qs.map Prod.snd = cycK p j ∧ SL w.heap.size w wr (pOwn cSl 1 22 ov (qs.map Prod.fst) :: pOwn cBool 1 4 (.slice ad p.length p.length) S :: qs.map inP)) (fun _ i _ _ _ => p.length - (intOf i).toNat)
  case atStart =>
    refine ⟨0, List.replicate p.length false, [], by omega, rfl, by simp, fun x h0 h1 => ?_, rfl, hS2⟩
    have : x.toNat < p.length := by omega
    simp [atD, cycK, this]
  case round =>
    obtain ⟨j, S, qs, hj, rfl, hlen, hsn, hqs, hSL⟩ := hrel
    have HSN := hid hsn; have HL := hid hlen; have HQ := hid hqs
    have hql : qs.length ≤ j := by have := cycK_len p j; rw [← hqs] at this; simpa using this
    have hqlen : (qs.map Prod.fst).length ≤ 100000 := by simp; omega
    clear hsn hlen hqs
    by_cases hlt : j < p.length
    · have hj0 : (0 : Int) ≤ j := by omega
      have hj1 : (j : Int) < p.length := by omega
      by_cases hin : (j : Int) ∈ (cycK p j).flatten
      · have hsk := HSN.out j hj0 hj1
        rw [decide_eq_true hin] at hsk
        have HSK := hid hsk; have HIN := hid hin
        clear hsk hin
        go_wp2_with fail
        go_loopw [6, 7] (fun cv kv wq => cv = .slice none 0 0 ∧ kv = .int .i64 j ∧ wr = wq) (fun _ _ _ => 0)
        case atStart => exact ⟨rfl, rfl, rfl⟩
        case round =>
          obtain ⟨rfl, rfl, rfl⟩ := hrel
          have hRB := hSL.rd 1 rfl
          go_wp2_with ((with_reducible refine wpList_idxN _ false E_bools F_bool cBool1 (by with_unfolding_all rfl) (by with_unfolding_all rfl) (hRB) (HL.out) (by first | omega | (simp; done)) (by first | omega | (simp; done)) (fun _ => by with_unfolding_all rfl) (fun _ => ?_)); rw [HSK.out])
          refine ⟨⟨j + 1, S, qs, by omega, by go_num, HL.out, ?_, ?_, hSL⟩, by simp [intOf]; omega⟩
          · rw [cycK_in HIN.out]; exact HSN.out
          · rw [cycK_in HIN.out]; exact HQ.out
      · obtain ⟨d, hd⟩ := ord_ex hp hj0 hj1
        have hd0 := hd.pos
        have hd1 := hd.le
        have HIN := hid hin; have HD := hid hd
        clear hin hd
        go_wp2_with fail
        have hSc := hSL.nilS (α := Int) (c := cInt) (sz := 1) (e := 3) cIntS
        go_loopw [6, 7] (fun cv kv wq => ∃ m : Nat, m ≤ d ∧ kv = .int .i64 (itP p j m) ∧ lenV cv = m ∧ SL w.heap.size w wq (pOwn cInt 1 3 cv (orbK p j m) :: pOwn cSl 1 22 u3 (qs.map Prod.fst) :: pOwn cBool 1 4 (.slice ad p.length p.length) (markL S (orbK p j m)) :: qs.map inP)) (fun cv _ _ => d - lenV cv)
        case atStart => exact ⟨0, by omega, rfl, rfl, hSc⟩
        case round =>
          clear hSc
          obtain ⟨m, hm, rfl, hlv, hSq⟩ := hrel
          have HLV := hid hlv; clear hlv
          have hml := markL_len S (orbK p j m)
          rw [HL.out] at hml
          have hol := orbK_len p j m
          have hole : (orbK p j m).length ≤ 100000 := by rw [hol]; omega
          obtain ⟨x0, x1⟩ := itP_rng hp hj0 hj1 m
          have hin2 : ∀ x ∈ orbK p j m, 0 ≤ x ∧ x < S.length := by
            intro x hx
            obtain ⟨i, _, rfl⟩ := List.mem_map.1 hx
            rw [HL.out]; exact itP_rng hp hj0 hj1 i
          have hat := markL_at (orbK p j m) S hin2 (itP p j m) x0
          rw [HSN.out _ x0 x1] at hat
          have hsuc := orbK_succ p j m
          have hmk := markL_snoc S (orbK p j m) (itP p j m)
          rw [← hsuc] at hmk
          have hSr := hS.below hSq.b
          have hRB := hSq.rd 2 rfl
          have HML := hid hml; have HSU := hid hsuc; have HMK := hid hmk; have HOL := hid hol
          obtain ⟨X, hX⟩ : ∃ X, X = itP p j m := ⟨_, rfl⟩
          have hnx : atD 0 p X = itP p j (m + 1) := by rw [hX]; rfl
          have HNX := hid hnx
          by_cases hmd : m < d
          · have hf1 := orbK_out hp hlt HIN.out HD.out hm
            have hf2 := orbK_new hp hj0 hj1 HD.out hmd
            rw [decide_eq_false hf1, decide_eq_false hf2] at hat
            have HAT := hid hat
            clear hat hf1 hf2 hin2 hml hsuc hmk hol hnx
            rw [← hX] at HAT HSU HMK x0 x1 ⊢
            clear hX
            have hxm : X < (markL S (orbK p j m)).length := by rw [HML.out]; exact x1
            go_wp2_with (first | ((with_reducible refine wpList_idxN _ false E_bools F_bool cBool1 (by with_unfolding_all rfl) (by with_unfolding_all rfl) (hRB) (HML.out) (by first | omega | (simp; done)) (by first | omega | (simp; done)) (fun _ => by with_unfolding_all rfl) (fun _ => ?_)); rw [HAT.out]) | ((with_reducible refine wpList_storeL (u := true) 2 E_bools cBool1 (sto_bool) (by with_unfolding_all rfl) (by with_unfolding_all rfl) (hSq) (by with_unfolding_all rfl) (by first | omega | (simp; done) | (simp; omega)) (by first | omega | (simp; done) | (simp; omega)) (fun _ => by with_unfolding_all rfl) (fun _ => by with_unfolding_all rfl) ?_); intro _ w3 hS3) | ((with_reducible refine wpList_pushL (y := X) 0 E_ints (by with_unfolding_all rfl) (by with_unfolding_all rfl) (hS3) (by with_unfolding_all rfl) cIntO ⟨rfl, rfl⟩ (by first | with_unfolding_all rfl | simp) (by with_unfolding_all rfl) (by first | omega | (simp; omega)) (by first | omega | (simp; omega)) ?_); intro v4 w4 hS4) | (with_reducible refine wpList_idx _ 0 E_ints F_int cInt1 (by with_unfolding_all rfl) (by with_unfolding_all rfl) ((hS.below hS4.b)) (by first | omega | (simp; done)) (by first | omega | (simp; done)) (fun _ => by with_unfolding_all rfl) (fun _ => ?_)))
            obtain ⟨a4, c4, e4, _⟩ := hS4.slice 0 rfl
            have hl4 : lenV v4 = m + 1 := by rw [e4]; show (orbK p j m ++ [X]).length = m + 1; rw [List.length_append, HOL.out]; rfl
            refine ⟨⟨m + 1, hmd, by rw [HNX.out], hl4, by rw [HSU.out, markL_snoc]; exact hS4⟩, ?_⟩
            rw [hl4, HLV.out]
            omega
          · have : m = d := by omega
            subst this
            have hmem : itP p j m ∈ orbK p j m := by rw [HD.out.back]; exact List.mem_map.2 ⟨0, by simp [hd0], rfl⟩
            rw [decide_eq_true hmem, Bool.or_true] at hat
            have HAT := hid hat
            have hmarks : ∀ x : Int, 0 ≤ x → x < p.length → atD false (markL S (orbK p j m)) x = decide (x ∈ (cycK p (j + 1)).flatten) := by
              intro x h0 h1
              rw [markL_at (orbK p j m) S hin2 x h0, HSN.out x h0 h1, cycK_out HIN.out, orb_eq HD.out]
              simp [orbK]
            have HMARK := hid hmarks
            clear hat hmem hin2 hml hsuc hmk hol hnx hX hmarks x0 x1
            obtain ⟨al, cl, rfl, _⟩ := hSq.slice 0 rfl
            have hxd : itP p j m = j := HD.out.back
            have HXD := hid hxd; clear hxd
            have hjm : (j : Int) < (markL S (orbK p j m)).length := by rw [HML.out]; exact hj1
            rw [HXD.out] at HAT ⊢
            have hop : 0 < (orbK p j m).length := by rw [HOL.out]; exact hd0
            go_wp2_with (first | ((with_reducible refine wpList_idxN _ false E_bools F_bool cBool1 (by with_unfolding_all rfl) (by with_unfolding_all rfl) (hRB) (HML.out) (by first | omega | (simp; done)) (by first | omega | (simp; done)) (fun _ => by with_unfolding_all rfl) (fun _ => ?_)); rw [HAT.out]) | ((with_reducible refine wpList_pushL (y := ((al, (orbK p j m).length, cl) : SlH)) 1 E_sls (by with_unfolding_all rfl) (by with_unfolding_all rfl) (hSq) (by with_unfolding_all rfl) cSlO ⟨rfl, rfl⟩ (by first | with_unfolding_all rfl | simp) (by with_unfolding_all rfl) (by first | omega | (simp; omega)) (by first | omega | (simp; omega)) ?_); intro v4 w4 hP))
            refine ⟨⟨j + 1, markL S (orbK p j m), qs ++ [((al, (orbK p j m).length, cl), orbK p j m)], by omega, by go_num, HML.out, HMARK.out, ?_, ?_⟩, by simp [intOf]; omega⟩
            · rw [List.map_append, HQ.out, cycK_out HIN.out, orb_eq HD.out]; rfl
            · refine hP.perm ?_
              rw [List.map_append, List.map_append]
              exact List.perm_append_comm (l₁ := [_])
    · have : j = p.length := by omega
      subst this
      clear hqlen
      go_wp2_with fail
      go_ret
      refine ⟨_, qs, rfl, HQ.out, ?_⟩
      exact (SL.comm (K := [_]) (L := qs.map inP) (SL.pickA (K := [_, _]) (M := qs.map inP) hSL [0] (by decide) (by simp) [_] rfl)).comm
end Go.Proofs.YtmomeggnegcheaaGreatDoor
