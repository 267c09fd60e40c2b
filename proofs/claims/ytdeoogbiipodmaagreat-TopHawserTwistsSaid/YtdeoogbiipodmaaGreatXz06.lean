/- Contracts and plain facts that the claim uses (BsE BsF RUA MbF MbQ MbR MbS MbG MbN MbO). Conditions: as each one states. -/
import Derived.Test.YtdeoogbiipodmaaGreatProg
import Derived.WalkKit
import Derived.WalkSpells
import Derived.Maps.AppendAt
import Derived.Deep.Quiet
import Derived.Maps.Own
import Derived.Maps.OwnSet
import Derived.Maps.Views
import Derived.WalkLawsBesides
import Derived.Laws.EntriesVeiled
import Derived.Deep.QuietTactic
import Derived.BigQuiet
import Derived.Deep.RegionHeld3
import Derived.Deep.AppendLies
import Derived.Deep.RegionHeldLaw
import Derived.Deep.RegionLaw
import Derived.RangeFuncNested
import Derived.RangeFuncBound
import Derived.RangeFuncCalls
import Derived.RangeFuncLeaves
import Derived.RangeFuncFrom
import Derived.Shelf.Abstract
import Derived.Shelf.RegionOpen
import Derived.OwnWalkIn
import Derived.TacticsInMore
import Derived.LoopNIn
import Derived.LoopIn
import Derived.Shelf.Strings.Trim
import Derived.Shelf.Strings.SlTrimAscii
import Derived.Shelf.Strings.Repeat
import Derived.Shelf.Strings.OnBuilder
import Derived.Shelf.Strconv.Itoa1
import Derived.Shelf.Strconv.Itoa3
import Derived.Shelf.LaysM
import Derived.Ground.Names2Prog
import Derived.Lib.OthersKept
import Derived.StillTail
import Derived.Laws.Tables
import Derived.IntWalk
import Derived.Laws.CopyOwn
import Derived.BigRegion
import Derived.ChangeAlike
import Derived.Shelf.Bits.Mul64
import Derived.Lib.ItoaLen
import Derived.Lib.ItoaMem
import Derived.Sort.LoopGhostIn
import Derived.Maps.RangeWalk
import Derived.Maps.Ext
import Derived.Deep.LoopGhost
import Derived.Laws.IdiomStrings
import Derived.Sort.QuietThIn
import Derived.Test.YtdeoogbiipodmaaGreatXz01
import Derived.Test.YtdeoogbiipodmaaGreatXz02
import Derived.Test.YtdeoogbiipodmaaGreatXz03
import Derived.Test.YtdeoogbiipodmaaGreatXz04
import Derived.Test.YtdeoogbiipodmaaGreatXz05
set_option linter.all false

namespace Go.Proofs.YtdeoogbiipodmaaGreat
open Go.RowKit
set_option maxHeartbeats 8000000
set_option maxRecDepth 100000
/-- the pieces without the box. -/
def PR (G m cp : Nat) (H : List SlH) (X : List (List Int)) : List Pc := [pOwn cSl 1 67 (.slice (some ⟨G, 0, none⟩) m cp) H] ++ (mxQ H X).map inP
theorem mu_up {a b m k : Nat} (h : a ≤ b) (hk : k ≤ m) : a * (m + 2) + (m + 1 - (k + 1)) < b * (m + 2) + (m + 1 - k) := by
 have := Nat.mul_le_mul_right (m + 2) h
 omega
theorem mu_down {a b m k : Nat} (h : a + 1 ≤ b) (hk : k ≤ m) : a * (m + 2) + (m + 1 - (k - 1)) < b * (m + 2) + (m + 1 - k) := by
 have := Nat.mul_le_mul_right (m + 2) h
 rw [Nat.add_mul] at this
 omega
theorem push_any {B : Nat} {w0 w : World} {G m cp n : Nat} {H0 : List SlH} {X0 : List (List Int)} (hS : SL B w0 w (PR G m cp H0 X0)) (hH : H0.length = m) (hX : X0.length = m) (hv : Vs (garN n).toGar X0) (hn1 : 1 ≤ n) (hn : n ≤ 1000) (hm : m ≤ 1000) :
  Calls Tryz.prog 67 #[.slice (some ⟨G, 0, none⟩) m cp] w fun r w' => (∃ v, r = .returned v) ∧ ∃ H X, H.length = m ∧ PushS n X0 X 0 ∧ NoPull (garN n).toGar X ∧ SL B w0 w' (PR G m cp H X) := by
 have hP0 : PushS n X0 X0 0 := ⟨.refl _, hv, rfl, fun j hj => by omega⟩
 have hS1 : SL B w0 (w.alloc (.cells #[.slice (some ⟨G, 0, none⟩) m cp] 103)) (PL w.heap.size G m cp H0 X0) := SL.box hS _
 obtain ⟨Bx, hBx⟩ : ∃ b, b = w.heap.size := ⟨_, rfl⟩
 rw [← hBx] at hS1
 obtain ⟨wb, hwb⟩ : ∃ wb, wb = w.alloc (.cells #[.slice (some ⟨G, 0, none⟩) m cp] 103) := ⟨_, rfl⟩
 obtain ⟨mu, hmu⟩ : ∃ mu : List (List Int) → Nat, ∀ X, mu X = muG (garN n).toGar X := ⟨_, fun _ => rfl⟩
 have HX := hid hX; have HMU := hid hmu
 clear hmu hX hv
 go_enter Tryz.func67, Tryz.ntmps67
 go_wp2_with fail
 simp only [← hBx, ← hwb]
 rw [← hwb] at hS1
 clear hwb hBx hS
 go_step3
 go_wp2
 go_step3
 go_wp2
 go_loopg [3, 4] (mu X0 * (m + 2) + (m + 1 - 0)) (fun g kv _ wr => ∃ (k : Nat) (H : List SlH) (X : List (List Int)), kv = .int .i64 k ∧ k ≤ m ∧ H.length = m ∧ Aside (PushS n X0 X k) ∧ Aside (g = mu X * (m + 2) + (m + 1 - k)) ∧ SL B w0 wr (PL Bx G m cp H X))
 case atStart => exact ⟨0, H0, X0, rfl, by omega, hH, hP0, rfl, hS1⟩
 case round =>
  clear hS1 hP0 hH
  obtain ⟨k, H, X, rfl, hk, hH, HP, HG, hSr⟩ := hrel
  have cb := hSr.cell 0 rfl 0 rfl
  have hXl : X.length = m := by rw [HP.out.len]; exact HX.out
  have hw1 : IntKind.i64.wrap ((k : Int) + 1) = (k : Int) + 1 := IntWalk.i64_in _ (by omega)
  by_cases hlt : k + 1 < m
  ·have dlt : decide ((k : Int) + 1 < (m : Int)) = true := decide_eq_true (by omega)
   obtain ⟨Xk, hXk⟩ : ∃ Y, Y = X := ⟨_, rfl⟩
   have HGK : Hid (gk = mu Xk * (m + 2) + (m + 1 - k)) := hid (by rw [hXk]; exact HG.out)
   have hP1 : PushS n X0 X (k - 1) := ⟨HP.out.star, HP.out.vs, HP.out.len, HP.out.set.le (by omega)⟩
   have HXL := hid hXl
   clear HG hXl
   go_wp2_with fail
   clear cb dlt
   go_loopg [4] (mu X) (fun g mv wy => ∃ (H : List SlH) (X : List (List Int)) (mo : Bool), mv = .bool mo ∧ H.length = m ∧ Aside (PushS n X0 X (if mo then k - 1 else k)) ∧ Aside (g = mu X ∧ mu X + (if mo then 1 else 0) ≤ mu Xk) ∧ SL B w0 wy (PL Bx G m cp H X))
   case atStart => exact ⟨H, X, false, rfl, hH, HP, ⟨rfl, by rw [hXk]; exact Nat.le_refl _⟩, hSr⟩
   case round =>
    clear hSr hP1 HP hXk HXL hH H X
    obtain ⟨H, X, mo, rfl, hH, HP, HG, hSr⟩ := hrel
    have hXl : X.length = m := by rw [HP.out.len]; exact HX.out
    have HV := hid HP.out.vs
    have hkX : k + 1 < X.length := by omega
    have hP1 : PushS n X0 X (k - 1) := by
     refine ⟨HP.out.star, HP.out.vs, HP.out.len, HP.out.set.le ?_⟩
     cases mo <;> simp
    have HP1 := hid hP1
    have HXL := hid hXl
    have HC := hid (push1_any hSr hH hXl HP.out.vs hn1 hn hm k hlt)
    clear hXl hP1
    go_wp2_with fail
    refine HC.out.mono ?_
    rintro e wy ⟨hN, hM⟩
    clear HC hSr
    cases hf : folP n (nth X k) (nth X (k + 1)) with
    | some i =>
     obtain ⟨rfl, H', hH', hS'⟩ := hM i hf
     have HP2 := hid (HP1.out.pull (k := k) (i := i) (by omega) hkX hf)
     have HMI : Hid (mu (pullX X k i) < mu X) := hid (by rw [HMU.out, HMU.out]; exact pullX_mu HV.out hkX hf)
     have HML : Hid (mu (pullX X k i) + 1 ≤ mu Xk) := hid (by have h1 := HG.out.2; have h2 := HMI.out; omega)
     clear hN hM hf
     go_wp2_with fail
     go_roundg (mu (pullX X k i))
     case measure => have h1 := HG.out.1; have h2 := HMI.out; omega
     case rel => exact ⟨H', pullX X k i, true, rfl, hH', HP2.out, ⟨rfl, HML.out⟩, hS'⟩
    | none =>
     obtain ⟨rfl, hS'⟩ := hN hf
     have HST : Hid (PushS n X0 X k → PushS n X0 X (k + 1)) := hid fun h => ⟨h.star, h.vs, h.len, h.set.next hf⟩
     have HST1 : Hid (k = 0 → PushS n X0 X (k + 1)) := hid fun h => ⟨HP1.out.star, HP1.out.vs, HP1.out.len, Settled.next (k := k) (fun j hj => by omega) hf⟩
     clear hN hM hf
     cases mo with
     | false =>
      go_wp2_with fail
      go_roundg (mu X * (m + 2) + (m + 1 - (k + 1)))
      case measure => rw [HGK.out]; exact mu_up (by have := HG.out.2; simpa using this) (by omega)
      case rel => exact ⟨k + 1, H, X, by go_num, by omega, hH, HST.out HP.out, rfl, hS'⟩
     | true =>
      by_cases hk0 : 0 < k
      ·obtain ⟨K0, hK0⟩ : ∃ K : Int, K = (k : Int) - 1 := ⟨_, rfl⟩
       have hw0 : IntKind.i64.wrap ((k : Int) - 1) = K0 := by rw [hK0]; exact IntWalk.i64_in _ (by omega)
       have HK0 : Hid (K0 = ((k - 1 : Nat) : Int)) := hid (by omega)
       have dk : decide (0 < (k : Int)) = true := decide_eq_true (by omega)
       clear hK0
       go_wp2_with fail
       go_roundg (mu X * (m + 2) + (m + 1 - (k - 1)))
       case measure => rw [HGK.out]; exact mu_down (by have := HG.out.2; simpa using this) (by omega)
       case rel => exact ⟨k - 1, H, X, by rw [HK0.out], by omega, hH, HP1.out, rfl, hS'⟩
      ·have dk : decide (0 < (k : Int)) = false := decide_eq_false (by omega)
       go_wp2_with fail
       go_roundg (mu X * (m + 2) + (m + 1 - (k + 1)))
       case measure => rw [HGK.out]; exact mu_up (by have := HG.out.2; simp at this; omega) (by omega)
       case rel => exact ⟨k + 1, H, X, by go_num, by omega, hH, HST1.out (by omega), rfl, hS'⟩
  ·have dlt : decide ((k : Int) + 1 < (m : Int)) = false := decide_eq_false (by omega)
   have HNP := hid (HP.out.set.all (by omega))
   clear HG hXl hlt
   go_wp2_with fail
   rw [Exit.noGoto_normal]
   go_end0
   exact ⟨⟨_, rfl⟩, H, X, hH, ⟨HP.out.star, HP.out.vs, HP.out.len, fun j hj => by omega⟩, HNP.out, SL.tail hSr⟩
end Go.Proofs.YtdeoogbiipodmaaGreat

namespace Go.Proofs.YtdeoogbiipodmaaGreat
open Go.RowKit
set_option maxHeartbeats 8000000
set_option maxRecDepth 100000
/-- the handles lead to rows of n places. -/
def RowsR (w : World) (n : Nat) (H : List SlH) (X : List (List Int)) : Prop := H.length = X.length ∧ ∀ k : Nat, k < X.length → ∃ a c, atD ((none, 0, 0) : SlH) H (k : Int) = (a, n, c) ∧ Ints w a c (nth X k)
theorem RowsR.below {w w' : World} {n : Nat} {H : List SlH} {X : List (List Int)} (h : RowsR w n H X) (hb : Below w.heap.size w w') : RowsR w' n H X := ⟨h.1, fun k hk => by obtain ⟨a, c, e, r⟩ := h.2 k hk; exact ⟨a, c, e, r.below hb⟩⟩
theorem SL.rowsR {B : Nat} {w0 w : World} {pre : List Pc} {H : List SlH} {X : List (List Int)} {n : Nat} (h : SL B w0 w (pre ++ (mxQ H X).map inP)) (hH : H.length = X.length) (hX : ∀ r ∈ X, r.length = n) : RowsR w n H X := ⟨hH, fun k hk => fx_row h hH hX hk⟩
theorem mxQ_snoc {H : List SlH} {X : List (List Int)} (h : H.length = X.length) (x : SlH) (r : List Int) : mxQ (H ++ [x]) (X ++ [r]) = mxQ H X ++ [(x, r)] := by
 unfold mxQ
 rw [List.zip_append h]
 rfl
theorem nth_take {X : List (List Int)} {k : Nat} (h : k < X.length) : X.take (k + 1) = X.take k ++ [nth X k] := by
 rw [List.take_succ_eq_append_getElem h]; simp [nth, atD, h]
theorem mappedF_any (aa : Option Addr) (ca n m : Nat) (H : List SlH) (X : List (List Int)) (w : World) (hR : Reps cSl 1 w aa ca H) (hrows : RowsR w n H X) (hX : X.length = m) (hv : ∀ x ∈ X, VP n x) (hn : n ≤ 1000) (hm : m ≤ 1000) :
  Calls Tryz.prog 64 #[.slice aa m ca, .func (.func 65) #[] #[]] w fun r w' => ∃ v Ho, r = .returned v ∧ Ho.length = m ∧ SL w.heap.size w w' ([pOwn cSl 1 67 v Ho] ++ (mxQ Ho (X.map flP)).map inP) := by
 have hcap := hR.le
 have hmx := hR.max
 have hHl : H.length = m := by rw [hrows.1, hX]
 rw [hHl] at hcap
 have HC := hid (fun (k : Nat) (hk : k < m) (a : Option Addr) (c : Nat) w (h : Ints w a c (nth X k)) => (show Calls Tryz.prog 65 #[.slice a n c] w fun r w' => ∃ v, r = .returned v ∧ OwnI w.heap.size w' v (flP (nth X k)) ∧ Below w.heap.size w w' from by
  have v := vs_nth (n := n) (X := X) hv (k := k) (by omega)
  have := flipped_any a c (nth X k) w h v.1 (by rw [v.2]; exact hn)
  rw [v.2] at this
  exact this))
 have HFL := hid (fun (k : Nat) (hk : k < m) => (show (flP (nth X k)).length = n from (VP.fl (vs_nth (n := n) (X := X) hv (k := k) (by omega))).2))
 have HTK : Hid (∀ k, k < m → (X.take (k + 1)).map flP = (X.take k).map flP ++ [flP (nth X k)]) := hid fun k hk => by rw [nth_take (by omega), List.map_append]; rfl
 have HLN : Hid (∀ k, k ≤ m → ((X.take k).map flP).length = k) := hid fun k hk => by rw [List.length_map, List.length_take]; omega
 have HRW := hid hrows; have HHL := hid hHl; have HXL := hid hX
 have hS0 : SL w.heap.size w w ([pOwn cSl 1 67 (.slice none 0 0) ([] : List SlH)] ++ (mxQ [] ((X.take 0).map flP)).map inP) := (SL.nil w).nilS (α := SlH) (e := 67) cSlS
 clear hrows hHl hX hv
 go_enter Tryz.func64, Tryz.ntmps64
 go_wp2_with fail
 go_loopw [10, 5, 7] (fun iv ov _ wr => ∃ (k : Nat) (Ho : List SlH), k ≤ m ∧ iv = .int .i64 k ∧ Ho.length = k ∧ SL w.heap.size w wr ([pOwn cSl 1 67 ov Ho] ++ (mxQ Ho ((X.take k).map flP)).map inP)) (fun iv _ _ _ => m - (intOf iv).toNat)
 case atStart => exact ⟨0, [], by omega, rfl, rfl, hS0⟩
 case round =>
  clear hS0
  obtain ⟨k, Ho, hk, rfl, hHo, hSr⟩ := hrel
  by_cases hlt : k < m
  ·obtain ⟨a1, c1, e1, h1⟩ := HRW.out.2 k (by rw [HXL.out]; exact hlt)
   have hRr := hR.below hSr.b
   have HE1 := hid e1
   have HCK := hid (HC.out k hlt a1 c1)
   have hfl := HFL.out k hlt
   have htk := HTK.out k hlt
   have hln := HLN.out k hk
   have hHo20 : Ho.length ≤ 1000 := by omega
   obtain ⟨F, hF⟩ : ∃ F, F = flP (nth X k) := ⟨_, rfl⟩
   rw [← hF] at HCK hfl htk
   obtain ⟨T, hT⟩ : ∃ T, T = (X.take k).map flP := ⟨_, rfl⟩
   rw [← hT] at hSr htk hln
   have HTK2 := hid htk; have HHT : Hid (Ho.length = T.length) := hid (by rw [hln]; exact hHo)
   have HHO := hid hHo; have HFN := hid hfl
   have h1r := h1.below hSr.b
   have hkH : (k : Int) < (H.length : Int) := by rw [HHL.out]; omega
   clear e1 htk hln hHo hfl hF hT h1
   go_wp2_with ((with_reducible refine wpList_idxN _ ((none, 0, 0) : SlH) E_smps F_smp cSl1 wU wU (hRr) (HHL.out) oD oD (fun _ => wU) (fun _ => ?_)); rw [HE1.out])
   refine (HCK.out _ h1r).mono ?_
   rintro e w2 ⟨v2, rfl, ho, b2⟩
   have hS2 := hSr.call (SL.ofOwn ho b2)
   obtain ⟨a2, c2, hv2, -⟩ := hS2.slice (c := cInt) 0 rfl
   rw [HFN.out] at hv2
   subst hv2
   simp only [List.cons_append, List.nil_append] at hS2
   clear ho b2 hSr hRr h1r
   go_wp2_with ((with_reducible refine wpList_pushL (y := ((a2, n, c2) : SlH)) 1 E_smps wU wU (hS2) wU cSlO ⟨rfl, rfl⟩ (by first | with_unfolding_all rfl | simp) wU (by first | omega | (simp; omega)) (by first | omega | (simp; omega)) ?_); intro v3 w3 hS3)
   have hS4 := hS3.comm (K := [pOwn cInt 1 3 (.slice a2 n c2) F])
   exact ⟨⟨k + 1, Ho ++ [(a2, n, c2)], by omega, by go_num, by rw [List.length_append, HHO.out]; rfl, by
    rw [HTK2.out, mxQ_snoc HHT.out, List.map_append]
    exact hS4⟩, by simp [intOf]; omega⟩
  ·have hkk : k = m := by omega
   have hfull : X.take k = X := by rw [hkk, ← HXL.out, List.take_length]
   rw [hfull] at hSr
   have HHO : Hid (Ho.length = m) := hid (by omega)
   have hkn : ¬ ((k : Int) < (m : Int)) := by omega
   clear hkk hfull hlt hk hHo
   go_wp2_with fail
   go_ret
   exact ⟨_, rfl, Ho, HHO.out, hSr⟩
theorem push_nil (w : World) : Calls Tryz.prog 67 #[.slice none 0 0] w fun r w' => (∃ v, r = .returned v) ∧ Below w.heap.size w w' := by
 have hS := (SL.nil w).box (.cells #[.slice none 0 0] 103)
 have cb := hS.cell 0 rfl 0 rfl
 have hb := bal (Below.refl w.heap.size w) (.cells #[.slice none 0 0] 103)
 obtain ⟨wb, hwb⟩ : ∃ wb, wb = w.alloc (.cells #[.slice none 0 0] 103) := ⟨_, rfl⟩
 rw [← hwb] at cb hb
 clear hS
 go_enter Tryz.func67, Tryz.ntmps67
 go_wp2_with fail
 simp only [← hwb]
 clear hwb
 go_step3
 go_wp2
 go_step3
 go_wp2
 go_loopg [3, 4] 0 (fun g kv _ wr => kv = .int .i64 0 ∧ wr = wb)
 case atStart => exact ⟨rfl, rfl⟩
 case round =>
  obtain ⟨rfl, rfl⟩ := hrel
  go_wp2_with fail
  rw [Exit.noGoto_normal]
  go_end0
  exact ⟨⟨_, rfl⟩, hb⟩
end Go.Proofs.YtdeoogbiipodmaaGreat

namespace Go.Proofs.YtdeoogbiipodmaaGreat
open Go.RowKit
set_option maxHeartbeats 2000000
set_option maxRecDepth 100000

def cB (b : UInt8) : Value := .int .u8 b.toNat
attribute [go_sem] cB
section
variable {P : Program} {ops : Array Oper} {rest : List Oper} {a : Act} {Q : Exit → Act → World → Prop} {d : Option Tmp} {src dst e ty : TypeId} {p : String} {x : Operand} {af : Array Edge} {w : World}
end
end Go.Proofs.YtdeoogbiipodmaaGreat

namespace Go.Proofs.YtdeoogbiipodmaaGreat
open Go.RowKit
set_option maxHeartbeats 2000000
set_option maxRecDepth 100000

end Go.Proofs.YtdeoogbiipodmaaGreat

namespace Go.Proofs.YtdeoogbiipodmaaGreat
open Go.RowKit
set_option maxHeartbeats 2000000
set_option maxRecDepth 100000

end Go.Proofs.YtdeoogbiipodmaaGreat

namespace Go.Proofs.YtdeoogbiipodmaaGreat
open Go.RowKit
set_option maxHeartbeats 2000000
set_option maxRecDepth 100000

section
variable {P : Program} {t e : TypeId} {w : World} {v : Value} {l : List Int} {y : Int}
end
/-- what an append leaves of the shorter slice. -/
def Sib (v : Value) (l : List Int) (v' : Value) (T M : List Pc) : Prop :=
 (T = M ∧ ∃ g c, v = .slice (some ⟨g, 0, none⟩) l.length c ∧ v' = .slice (some ⟨g, 0, none⟩) (l.length + 1) c) ∨ T = pOwn cInt 1 3 v l :: M
theorem own_shorter {e : TypeId} {w : World} {g c : Nat} {l : List Int} {y : Int} {B : Nat} (h : Own cInt 1 B e w (.slice (some ⟨g, 0, none⟩) (l.length + 1) c) (l ++ [y])) : Own cInt 1 B e w (.slice (some ⟨g, 0, none⟩) l.length c) l := by
 obtain ⟨h1, h2, h3⟩ := h
 have hfl : ∀ L : List Int, (L.flatMap fun x => (cInt x).cells.toList).length = L.length * 1 := fun L => flat_len _ 1 (fun x => by simpa using cIntS x) L
 refine ⟨h1, hfl l, ?_⟩
 rcases h3 with ⟨h3, _⟩ | ⟨g', c', cur, hv, hB, hg, hnc, hcm, hcs, htk⟩
 ·cases h3
 ·simp only [Value.slice.injEq, Option.some.injEq, Addr.mk.injEq, and_true] at hv
  obtain ⟨rfl, _, rfl⟩ := hv
  refine .inr ⟨g, c, cur, rfl, hB, hg, ?_, hcm, hcs, ?_⟩
  ·simp at hnc; omega
  ·rw [List.flatMap_append] at htk
   have h4 := congrArg (List.take (l.length * 1)) htk
   rw [List.take_take, List.length_append, List.length_cons, List.length_nil] at h4
   rw [show min (l.length * 1) ((l.length + (0 + 1)) * 1) = l.length * 1 by omega] at h4
   rw [h4, ← hfl l, List.take_left]
theorem Sib.back {B : Nat} {w0 w : World} {v v' : Value} {l : List Int} {y : Int} {T M : List Pc} {p q : Pc} (h : Sib v l v' T M) (hS : SL B w0 w (p :: q :: pOwn cInt 1 3 v' (l ++ [y]) :: T)) : SL B w0 w (p :: q :: pOwn cInt 1 3 v l :: M) := by
 rcases h with ⟨rfl, g, c, rfl, rfl⟩ | rfl
 ·exact hS.weaken 2 rfl (pOwn cInt 1 3 (.slice (some ⟨g, 0, none⟩) l.length c) l) (fun b hb => ⟨own_shorter hb.1, hb.2⟩)
 ·exact SL.pickA (K := [p, q, pOwn cInt 1 3 v' (l ++ [y]), pOwn cInt 1 3 v l]) (M := M) hS [0, 1, 3] (by decide) (by simp) [p, q, pOwn cInt 1 3 v l] rfl
section
variable {ops : Array Oper} {rest : List Oper} {a : Act} {Q : Exit → Act → World → Prop} {w0 w : World} {M : List Pc} {B : Nat} {v : Value} {l : List Int}
end

end Go.Proofs.YtdeoogbiipodmaaGreat

namespace Go.Proofs.YtdeoogbiipodmaaGreat
set_option maxRecDepth 100000

abbrev catO (l : List (Option Int)) : List Int := l.filterMap id
def opG (m : MacV) (l : List Int) (g : Int) (i : Nat) : Option Int := idxO l (slotG m g i)
theorem orderG_eq (m : MacV) (l : List Int) (g : Int) : orderG m l g = catO [opG m l g 0, opG m l g 1, opG m l g 2, opG m l g 3] := by
 unfold orderG catO opG
 rw [slotsG_eq]
 simp [List.filterMap_cons]
def afterG (m : MacV) (l : List Int) (g : Int) : List Int := catO [opG m l g 2, opG m l g 0, opG m l g 3, opG m l g 1]
theorem crossG_eq (m : MacV) (l : List Int) (g : Int) : crossG m l g = (crossA m l g 1 2).toList ++ ((crossA m l g 0 2).toList ++ (crossA m l g 1 3).toList) := by
 unfold crossG pairsX
 simp only [List.filterMap_cons, List.filterMap_nil]
 generalize crossA m l g 1 2 = a
 generalize crossA m l g 0 2 = b
 generalize crossA m l g 1 3 = c
 cases a <;> cases b <;> cases c <;> rfl
def mkX (m : MacV) (g : Int) (a b : Int) : CrM := if fwdM m g then ⟨g, b, a, a⟩ else ⟨g, a, b, a⟩
theorem mkX_going (m : MacV) (g a b : Int) : (mkX m g a b).going = a := by unfold mkX; split <;> rfl
theorem crossA_eq (m : MacV) (l : List Int) (g : Int) (x y : Nat) : crossA m l g x y = bothX (mkX m g) (opG m l g x) (opG m l g y) := rfl
theorem catO_app (x y : List (Option Int)) : catO (x ++ y) = catO x ++ catO y := by simp [catO]
theorem crossG_row (m : MacV) (l : List Int) (g : Int) {A C : List Int} (hn : (A ++ orderG m l g ++ C).Nodup) (out : List Int) :
  ∃ out', (crossG m l g).foldl weaveC (A ++ orderG m l g ++ C, out) = (A ++ afterG m l g ++ C, out') ∧ (A ++ afterG m l g ++ C).Nodup := by
 rw [crossG_eq, orderG_eq] at *
 unfold afterG
 rw [crossA_eq, crossA_eq, crossA_eq]
 generalize opG m l g 0 = o0 at *
 generalize opG m l g 1 = o1 at *
 generalize opG m l g 2 = o2 at *
 generalize opG m l g 3 = o3 at *
 have e1 : A ++ catO [o0, o1, o2, o3] ++ C = (A ++ catO [o0]) ++ [o1, o2].filterMap id ++ (catO [o3] ++ C) := by
  rw [show [o0, o1, o2, o3] = [o0] ++ ([o1, o2] ++ [o3]) from rfl, catO_app, catO_app]; simp only [catO, List.append_assoc]
 have e2 : (A ++ catO [o0]) ++ [o2, o1].filterMap id ++ (catO [o3] ++ C) = A ++ [o0, o2].filterMap id ++ (catO [o1, o3] ++ C) := by
  rw [show [o0, o2] = [o0] ++ [o2] from rfl, show [o2, o1] = [o2] ++ [o1] from rfl, show [o1, o3] = [o1] ++ [o3] from rfl, catO_app, ]
  simp only [catO, List.filterMap_append, List.append_assoc]
 have e3 : A ++ [o2, o0].filterMap id ++ (catO [o1, o3] ++ C) = (A ++ catO [o2, o0]) ++ [o1, o3].filterMap id ++ C := by
  simp only [catO, List.append_assoc]
 have e4 : (A ++ catO [o2, o0]) ++ [o3, o1].filterMap id ++ C = A ++ catO [o2, o0, o3, o1] ++ C := by
  rw [show [o2, o0, o3, o1] = [o2, o0] ++ [o3, o1] from rfl, catO_app]; simp only [catO, List.append_assoc]
 rw [e1] at hn ⊢
 rw [List.foldl_append, List.foldl_append]
 obtain ⟨u1, h1, n1⟩ := cross_swap hn (mkX_going m g) out
 rw [h1]
 rw [e2] at n1 ⊢
 obtain ⟨u2, h2, n2⟩ := cross_swap n1 (mkX_going m g) u1
 rw [h2]
 rw [e3] at n2 ⊢
 obtain ⟨u3, h3, n3⟩ := cross_swap n2 (mkX_going m g) u2
 rw [h3]
 rw [e4] at n3 ⊢
 exact ⟨u3, rfl, n3⟩
theorem crossL_row (m : MacV) (l : List Int) : ∀ (gs : List Int) (A out : List Int), (A ++ gs.flatMap (orderG m l)).Nodup →
  ∃ out', (gs.flatMap (crossG m l)).foldl weaveC (A ++ gs.flatMap (orderG m l), out) = (A ++ gs.flatMap (afterG m l), out') ∧ (A ++ gs.flatMap (afterG m l)).Nodup
 | [], A, out, hn => ⟨out, rfl, hn⟩
 | g :: gs, A, out, hn => by
   simp only [List.flatMap_cons] at hn ⊢
   rw [← List.append_assoc] at hn ⊢
   obtain ⟨u1, h1, n1⟩ := crossG_row m l g hn out
   rw [List.foldl_append, h1]
   obtain ⟨u2, h2, n2⟩ := crossL_row m l gs (A ++ afterG m l g) u1 n1
   rw [h2]
   rw [← List.append_assoc]
   exact ⟨u2, rfl, n2⟩

theorem gearsL_mem {m : MacV} {g : Int} : g ∈ gearsL m ↔ 0 ≤ g ∧ g < m.gears := by
 unfold gearsL
 simp only [List.mem_map, List.mem_range]
 constructor
 ·rintro ⟨k, hk, rfl⟩; omega
 ·intro h; exact ⟨g.toNat, by omega, by omega⟩
theorem gearsL_nodup (m : MacV) : (gearsL m).Nodup := by
 unfold gearsL List.Nodup
 rw [List.pairwise_map]
 have := List.nodup_range (n := m.gears.toNat)
 exact this.imp (fun h e => h (by omega))
theorem slotsG_nodup (m : MacV) (g : Int) : (slotsG m g).Nodup := by
 unfold slotsG
 split <;> simp <;> omega
theorem slotsG_mem {m : MacV} {g s : Int} : s ∈ slotsG m g ↔ s / 4 = g := by
 unfold slotsG
 split <;> simp <;> omega
theorem seqM_nodup (m : MacV) : ((gearsL m).flatMap (slotsG m)).Nodup := by
 unfold List.Nodup
 rw [List.pairwise_flatMap]
 refine ⟨fun g _ => slotsG_nodup m g, (gearsL_nodup m).imp ?_⟩
 intro a b hab x hx y hy e
 rw [slotsG_mem] at hx hy
 exact hab (by rw [← hx, ← hy, e])
theorem idxO_inj {l : List Int} {x y i : Int} (h : idxO l x = some i) (k : idxO l y = some i) : x = y := by
 have a := (idxO_some h).2.2
 have b := (idxO_some k).2.2
 rw [a] at b
 exact Option.some.inj b
theorem orderM_seq (m : MacV) (l : List Int) : orderM m l = ((gearsL m).flatMap (slotsG m)).filterMap (idxO l) := by
 unfold orderM orderG
 rw [List.filterMap_flatMap]
theorem orderM_nodup (m : MacV) (l : List Int) : (orderM m l).Nodup := by
 rw [orderM_seq]
 unfold List.Nodup
 rw [List.pairwise_filterMap]
 refine (seqM_nodup m).imp ?_
 intro a b hab x hx y hy e
 subst e
 exact hab (idxO_inj hx hy)
def afterM (m : MacV) (l : List Int) : List Int := (gearsL m).flatMap (afterG m l)
theorem weaveS_row (m : MacV) (l out : List Int) : ∃ out', weaveS m (orderM m l, out) l = (afterM m l, out') ∧ (afterM m l).Nodup := by
 have := crossL_row m l (gearsL m) [] out (by simpa [orderM] using orderM_nodup m l)
 simpa [weaveS, crossM, orderM, afterM] using this

theorem idxO_map {l : List Int} {f : Int → Int} {s t : Int} (h : ∀ x ∈ l, f x = s ↔ x = t) : idxO (l.map f) s = idxO l t := by
 have e : (l.map f).findIdx (· == s) = l.findIdx (· == t) := by
  rw [List.findIdx_map]
  induction l with
  | nil => rfl
  | cons x r ih =>
   rw [List.findIdx_cons, List.findIdx_cons, ih (fun y hy => h y (List.mem_cons_of_mem _ hy))]
   have := h x List.mem_cons_self
   have e2 : ((fun x => x == s) ∘ f) x = (x == t) := by
    simp only [Function.comp]
    rw [Bool.eq_iff_iff]; simpa using this
   rw [e2]
 unfold idxO
 rw [e, List.length_map]
theorem rot_slot {m : MacV} {g : Int} : rotM m (slotG m g 2) = slotG m g 0 ∧ rotM m (slotG m g 0) = slotG m g 1 ∧ rotM m (slotG m g 3) = slotG m g 2 ∧ rotM m (slotG m g 1) = slotG m g 3 := by
 have hd := fun i => slotG_div m g i
 unfold rotM
 rw [hd, hd, hd, hd]
 cases hf : fwdM m g <;> simp [slotG, hf] <;> omega
theorem slotG_rng {m : MacV} {g : Int} (h0 : 0 ≤ g) (h1 : g < m.gears) (i : Nat) : 0 ≤ slotG m g i ∧ slotG m g i < 4 * m.gears := by
 unfold slotG
 split
 ·omega
 ·split <;> omega
 ·split <;> omega
 ·omega
theorem idxO_rot {m : MacV} {l : List Int} (hl : ∀ x ∈ l, 0 ≤ x ∧ x < 4 * m.gears) {s t : Int} (h0 : 0 ≤ t) (h1 : t < 4 * m.gears) (h : rotM m t = s) : idxO (l.map (rotM m)) s = idxO l t :=
 idxO_map fun x hx => ⟨fun e => rot_inj (hl x hx).1 (hl x hx).2 h0 h1 (e.trans h.symm), fun e => e ▸ h⟩
theorem over_inj {m : MacV} {s t : Int} (h0 : 0 ≤ s) (h1 : s < 4 * m.gears) (k0 : 0 ≤ t) (k1 : t < 4 * m.gears) (e : overM m s = overM m t) : s = t := by
 have := congrArg (overM m) e
 rwa [over_over h0 h1, over_over k0 k1] at this
theorem idxO_over {m : MacV} {l : List Int} (hl : ∀ x ∈ l, 0 ≤ x ∧ x < 4 * m.gears) {s : Int} (h0 : 0 ≤ s) (h1 : s < 4 * m.gears) : idxO (l.map (overM m)) s = idxO l (overM m s) :=
 idxO_map fun x hx => ⟨fun e => by rw [← e, over_over (hl x hx).1 (hl x hx).2], fun e => by rw [e, over_over h0 h1]⟩
theorem after_rot {m : MacV} {l : List Int} (hl : ∀ x ∈ l, 0 ≤ x ∧ x < 4 * m.gears) : afterM m l = orderM m (l.map (rotM m)) := by
 unfold afterM orderM
 have key : ∀ g ∈ gearsL m, afterG m l g = orderG m (l.map (rotM m)) g := by
  intro g hg
  obtain ⟨h0, h1⟩ := gearsL_mem.1 hg
  obtain ⟨r2, r0, r3, r1⟩ := rot_slot (m := m) (g := g)
  have k := fun i => slotG_rng (m := m) h0 h1 i
  rw [orderG_eq]
  unfold afterG opG
  rw [idxO_rot hl (k 2).1 (k 2).2 r2, idxO_rot hl (k 0).1 (k 0).2 r0, idxO_rot hl (k 3).1 (k 3).2 r3, idxO_rot hl (k 1).1 (k 1).2 r1]
 have : ∀ gs : List Int, (∀ g ∈ gs, g ∈ gearsL m) → gs.flatMap (afterG m l) = gs.flatMap (orderG m (l.map (rotM m))) := by
  intro gs
  induction gs with
  | nil => intro _; rfl
  | cons g gs ih => intro h; rw [List.flatMap_cons, List.flatMap_cons, key g (h g List.mem_cons_self), ih (fun x hx => h x (List.mem_cons_of_mem _ hx))]
 exact this _ (fun _ h => h)

/-- the same, taken apart at the shared places. -/
theorem regroup (F : Nat → List Int) (a bc d : Nat → List Int) (hF : ∀ g, F g = a g ++ bc g ++ d g) : ∀ k : Nat, (List.range (k + 1)).flatMap F = a 0 ++ (List.range k).flatMap (fun g => bc g ++ (d g ++ a (g + 1))) ++ (bc k ++ d k)
 | 0 => by simp [List.range_succ, hF]
 | k + 1 => by
   rw [List.range_succ, List.flatMap_append, regroup F a bc d hF k, List.range_succ, List.flatMap_append]
   simp [hF, List.append_assoc]
theorem placeM_slot {m : MacV} (g : Int) : placeM m (slotG m g 0) = g ∧ placeM m (slotG m g 1) = -1 ∧ placeM m (slotG m g 2) = -1 ∧ (m.ring = false → placeM m (slotG m g 3) = g + 1) := by
 cases hf : fwdM m g <;> unfold placeM slotG <;> simp only [hf, if_true, if_false, Bool.false_eq_true] <;> refine ⟨?_, ?_, ?_, fun hr => ?_⟩ <;> (repeat' split) <;> first | omega | simp_all <;> omega
/-- no two of these carriers are in both slots of a shared place. -/
def NoHit (m : MacV) (l : List Int) : Prop := ∀ x ∈ l, ∀ y ∈ l, x ≠ y → hitM m x y = false
theorem order_over {m : MacV} {l : List Int} (hr : m.ring = false) (hl : ∀ x ∈ l, 0 ≤ x ∧ x < 4 * m.gears) (hno : NoHit m l) : orderM m (l.map (overM m)) = orderM m l := by
 by_cases hg : m.gears ≤ 0
 ·have : m.gears.toNat = 0 := by omega
  simp [orderM, gearsL, this]
 obtain ⟨k, hk⟩ : ∃ k : Nat, m.gears.toNat = k + 1 := ⟨m.gears.toNat - 1, by omega⟩
 have hkg : m.gears = (k : Int) + 1 := by omega
 have hu : ∀ L : List Int, orderM m L = (List.range (k + 1)).flatMap (fun g : Nat => orderG m L (g : Int)) := by
  intro L
  unfold orderM gearsL
  rw [hk, List.flatMap_map]
 have hF : ∀ (L : List Int) (g : Nat), orderG m L (g : Int) = catO [opG m L g 0] ++ catO [opG m L g 1, opG m L g 2] ++ catO [opG m L g 3] := by
  intro L g
  rw [orderG_eq, ← catO_app, ← catO_app]
  rfl
 rw [hu, hu, regroup _ _ _ _ (hF (l.map (overM m))) k, regroup _ _ _ _ (hF l) k]
 have stay : ∀ (g i : Nat), (g : Int) < m.gears → goesM m (slotG m g i) = false → opG m (l.map (overM m)) g i = opG m l g i := by
  intro g i hg hno
  obtain ⟨s0, s1⟩ := slotG_rng (m := m) (g := (g : Int)) (by omega) hg i
  unfold opG
  rw [idxO_over hl s0 s1]
  unfold overM
  rw [hno]
  rfl
 have gm1 : ∀ (g : Nat), goesM m (slotG m g 1) = false := fun g => by unfold goesM; rw [(placeM_slot g).2.1]; simp
 have gm2 : ∀ (g : Nat), goesM m (slotG m g 2) = false := fun g => by unfold goesM; rw [(placeM_slot g).2.2.1]; simp
 have gm0 : goesM m (slotG m ((0 : Nat) : Int) 0) = false := by unfold goesM; rw [(placeM_slot _).1]; simp [sharedM, hr]
 have gmk : goesM m (slotG m (k : Int) 3) = false := by
  unfold goesM
  rw [(placeM_slot (m := m) (k : Int)).2.2.2 hr]
  have : sharedM m ((k : Int) + 1) = false := by unfold sharedM; simp [hr, hkg]
  rw [this]; simp
 have z0 : catO [opG m (l.map (overM m)) ((0 : Nat) : Int) 0] = catO [opG m l ((0 : Nat) : Int) 0] := by rw [stay 0 0 (by omega) gm0]
 have zk : catO [opG m (l.map (overM m)) k 1, opG m (l.map (overM m)) k 2] ++ catO [opG m (l.map (overM m)) k 3] = catO [opG m l k 1, opG m l k 2] ++ catO [opG m l k 3] := by
  rw [stay k 1 (by omega) (gm1 k), stay k 2 (by omega) (gm2 k), stay k 3 (by omega) gmk]
 rw [z0, zk]
 congr 2
 have mid : ∀ g : Nat, g < k → (catO [opG m (l.map (overM m)) g 1, opG m (l.map (overM m)) g 2] ++ (catO [opG m (l.map (overM m)) g 3] ++ catO [opG m (l.map (overM m)) ((g + 1 : Nat) : Int) 0])) = (catO [opG m l g 1, opG m l g 2] ++ (catO [opG m l g 3] ++ catO [opG m l ((g + 1 : Nat) : Int) 0])) := by
  intro g hg
  rw [stay g 1 (by omega) (gm1 g), stay g 2 (by omega) (gm2 g)]
  congr 1
  have p3 := (placeM_slot (m := m) (g : Int)).2.2.2 hr
  have p0 := (placeM_slot (m := m) ((g + 1 : Nat) : Int)).1
  have e3 : slotG m (g : Int) 3 = 4 * (g : Int) + 2 := rfl
  have e0 : slotG m ((g + 1 : Nat) : Int) 0 = 4 * ((g + 1 : Nat) : Int) := rfl
  have hsh : sharedM m ((g : Int) + 1) = true := shared_iff.2 ⟨by omega, by omega, .inr (by omega)⟩
  have r3 := slotG_rng (m := m) (g := (g : Int)) (by omega) (by omega) 3
  have r0 := slotG_rng (m := m) (g := ((g + 1 : Nat) : Int)) (by omega) (by omega) 0
  cases hsw : m.sw.contains ((g : Int) + 1)
  ·have hb : befM m ((g : Int) + 1) = g := by unfold befM; rw [if_neg (by omega)]; omega
   have o3 : overM m (slotG m (g : Int) 3) = slotG m ((g + 1 : Nat) : Int) 0 := by
    have hgo : goesM m (slotG m (g : Int) 3) = true := by unfold goesM; rw [p3, hsh, hsw]; simp; omega
    unfold overM
    rw [if_pos hgo, p3, hb, e3, e0]
    omega
   have o0 : overM m (slotG m ((g + 1 : Nat) : Int) 0) = slotG m (g : Int) 3 := by rw [← o3, over_over r3.1 r3.2]
   have a3 : opG m (l.map (overM m)) (g : Int) 3 = opG m l ((g + 1 : Nat) : Int) 0 := by unfold opG; rw [idxO_over hl r3.1 r3.2, o3]
   have a0 : opG m (l.map (overM m)) ((g + 1 : Nat) : Int) 0 = opG m l (g : Int) 3 := by unfold opG; rw [idxO_over hl r0.1 r0.2, o0]
   rw [a3, a0]
   -- at most one of them is there
   match h1 : opG m l (g : Int) 3, h2 : opG m l ((g + 1 : Nat) : Int) 0 with
   | none, none => rfl
   | none, some b => rfl
   | some a, none => rfl
   | some a, some b =>
    exfalso
    have m1 := List.mem_of_getElem? (idxO_some h1).2.2
    have m2 := List.mem_of_getElem? (idxO_some h2).2.2
    have hh := hno _ m1 _ m2 (by rw [e3, e0]; omega)
    unfold hitM at hh
    rw [p3, p0, hsh] at hh
    simp at hh
    omega
  ·have g3 : goesM m (slotG m (g : Int) 3) = false := by unfold goesM; rw [p3, hsw]; simp
   have g0 : goesM m (slotG m ((g + 1 : Nat) : Int) 0) = false := by
    unfold goesM; rw [p0, show ((g + 1 : Nat) : Int) = (g : Int) + 1 by omega, hsw]; simp
   rw [stay g 3 (by omega) g3, stay (g + 1) 0 (by omega) g0]
 have : ∀ j, j ≤ k → (List.range j).flatMap (fun g : Nat => catO [opG m (l.map (overM m)) (g : Int) 1, opG m (l.map (overM m)) (g : Int) 2] ++ (catO [opG m (l.map (overM m)) (g : Int) 3] ++ catO [opG m (l.map (overM m)) ((g + 1 : Nat) : Int) 0])) = (List.range j).flatMap (fun g : Nat => catO [opG m l (g : Int) 1, opG m l (g : Int) 2] ++ (catO [opG m l (g : Int) 3] ++ catO [opG m l ((g + 1 : Nat) : Int) 0])) := by
  intro j
  induction j with
  | zero => intro _; rfl
  | succ j ih => intro h; rw [List.range_succ, List.flatMap_append, List.flatMap_append, ih (by omega)]; simp only [List.flatMap_cons, List.flatMap_nil, List.append_nil]; rw [mid j (by omega)]
 exact this k (Nat.le_refl _)
theorem order_step {m : MacV} {l : List Int} (hr : m.ring = false) (hl : ∀ x ∈ l, 0 ≤ x ∧ x < 4 * m.gears) (hno : NoHit m (stepL m l)) : afterM m l = orderM m (stepL m l) := by
 have hl2 : ∀ x ∈ l.map (rotM m), 0 ≤ x ∧ x < 4 * m.gears := by
  intro x hx
  obtain ⟨y, hy, rfl⟩ := List.mem_map.1 hx
  have := rot_rng (hl y hy).1 (hl y hy).2
  exact ⟨this.1, this.2.1⟩
 have e : stepL m l = (l.map (rotM m)).map (overM m) := by unfold stepL; rw [List.map_map]; rfl
 rw [after_rot hl, e, order_over hr hl2]
 intro x hx y hy hxy
 have hx2 := hl2 x hx
 have hy2 := hl2 y hy
 have h1 := hno (overM m x) (by rw [e]; exact List.mem_map_of_mem hx) (overM m y) (by rw [e]; exact List.mem_map_of_mem hy) (fun e => hxy (over_inj hx2.1 hx2.2 hy2.1 hy2.2 e))
 have pl : ∀ s, 0 ≤ s → s < 4 * m.gears → placeM m (overM m s) = placeM m s := by
  intro s h0 h1
  rcases over_cases h0 h1 with ⟨_, e⟩ | ⟨_, _, _, hp, _⟩
  ·rw [e]
  ·exact hp
 unfold hitM at h1 ⊢
 rw [pl x hx2.1 hx2.2, pl y hy2.1 hy2.2] at h1
 exact h1
end Go.Proofs.YtdeoogbiipodmaaGreat

namespace Go.Proofs.YtdeoogbiipodmaaGreat
set_option maxRecDepth 100000

def rowC (r : List Int) (c : CrM) : List Int := swpL r (idxZ r c.going).toNat
theorem fold_fst : ∀ (cs : List CrM) (r out : List Int), (cs.foldl weaveC (r, out)).1 = cs.foldl rowC r
 | [], r, out => rfl
 | c :: cs, r, out => by rw [List.foldl_cons, List.foldl_cons, weaveC]; exact fold_fst cs _ _
theorem fold_len : ∀ (cs : List CrM) (r out : List Int), (cs.foldl weaveC (r, out)).2.length = out.length + cs.length
 | [], r, out => rfl
 | c :: cs, r, out => by
   rw [List.foldl_cons, weaveC, fold_len cs, List.length_append, List.length_cons, List.length_nil, List.length_cons]; dsimp only; omega
def goodC : List Int → List CrM → Prop
 | _, [] => True
 | r, c :: cs => (∃ i : Nat, idxO r c.going = some (i : Int) ∧ i + 1 < r.length) ∧ goodC (rowC r c) cs
theorem goodC_app : ∀ (xs ys : List CrM) (r : List Int), goodC r (xs ++ ys) ↔ goodC r xs ∧ goodC (xs.foldl rowC r) ys
 | [], ys, r => by simp [goodC]
 | c :: xs, ys, r => by
   rw [List.cons_append, goodC, goodC, List.foldl_cons, goodC_app xs ys (rowC r c), and_assoc]
theorem cross_good {A C : List Int} {x y : Option Int} (hn : (A ++ [x, y].filterMap id ++ C).Nodup) {f : Int → Int → CrM} (hf : ∀ a b, (f a b).going = a) :
  goodC (A ++ [x, y].filterMap id ++ C) (bothX f x y).toList := by
 match x, y with
 | none, none => trivial
 | none, some b => trivial
 | some a, none => trivial
 | some a, some b =>
  have ha : a ∉ A := by
   intro hm
   have h1 := List.nodup_append.1 (List.append_assoc _ _ _ ▸ hn)
   exact h1.2.2 a hm a (by simp) rfl
  have e : (A ++ [some a, some b].filterMap id ++ C) = A ++ a :: b :: C := by simp
  rw [e]
  refine ⟨⟨A.length, ?_, ?_⟩, trivial⟩
  ·rw [hf]; exact idxO_mid ha
  ·simp
theorem crossG_good (m : MacV) (l : List Int) (g : Int) {A C : List Int} (hn : (A ++ orderG m l g ++ C).Nodup) : goodC (A ++ orderG m l g ++ C) (crossG m l g) := by
 rw [crossG_eq, orderG_eq] at *
 rw [crossA_eq, crossA_eq, crossA_eq]
 generalize opG m l g 0 = o0 at *
 generalize opG m l g 1 = o1 at *
 generalize opG m l g 2 = o2 at *
 generalize opG m l g 3 = o3 at *
 have e1 : A ++ catO [o0, o1, o2, o3] ++ C = (A ++ catO [o0]) ++ [o1, o2].filterMap id ++ (catO [o3] ++ C) := by
  rw [show [o0, o1, o2, o3] = [o0] ++ ([o1, o2] ++ [o3]) from rfl, catO_app, catO_app]; simp only [catO, List.append_assoc]
 have e2 : (A ++ catO [o0]) ++ [o2, o1].filterMap id ++ (catO [o3] ++ C) = A ++ [o0, o2].filterMap id ++ (catO [o1, o3] ++ C) := by
  rw [show [o0, o2] = [o0] ++ [o2] from rfl, show [o2, o1] = [o2] ++ [o1] from rfl, show [o1, o3] = [o1] ++ [o3] from rfl, catO_app, ]
  simp only [catO, List.filterMap_append, List.append_assoc]
 have e3 : A ++ [o2, o0].filterMap id ++ (catO [o1, o3] ++ C) = (A ++ catO [o2, o0]) ++ [o1, o3].filterMap id ++ C := by
  simp only [catO, List.append_assoc]
 rw [e1] at hn ⊢
 have g1 := cross_good hn (mkX_going m g)
 obtain ⟨u1, h1, n1⟩ := cross_swap hn (mkX_going m g) []
 have r1 := congrArg Prod.fst h1
 rw [fold_fst] at r1
 simp only [e2] at r1 n1
 have g2 := cross_good n1 (mkX_going m g)
 obtain ⟨u2, h2, n2⟩ := cross_swap n1 (mkX_going m g) []
 have r2 := congrArg Prod.fst h2
 rw [fold_fst] at r2
 simp only [e3] at r2 n2
 have g3 := cross_good n2 (mkX_going m g)
 rw [goodC_app, goodC_app, r1, r2]
 exact ⟨g1, g2, g3⟩
theorem crossL_good (m : MacV) (l : List Int) : ∀ (gs : List Int) (A : List Int), (A ++ gs.flatMap (orderG m l)).Nodup → goodC (A ++ gs.flatMap (orderG m l)) (gs.flatMap (crossG m l))
 | [], A, hn => trivial
 | g :: gs, A, hn => by
   simp only [List.flatMap_cons] at hn ⊢
   rw [← List.append_assoc] at hn ⊢
   rw [goodC_app]
   refine ⟨crossG_good m l g hn, ?_⟩
   obtain ⟨u1, h1, n1⟩ := crossG_row m l g hn []
   have r1 := congrArg Prod.fst h1
   rw [fold_fst] at r1
   rw [r1]
   exact crossL_good m l gs (A ++ afterG m l g) n1
theorem crossM_good (m : MacV) (l : List Int) : goodC (orderM m l) (crossM m l) := by
 have := crossL_good m l (gearsL m) [] (by simpa [orderM] using orderM_nodup m l)
 simpa [crossM, orderM] using this
theorem crossM_len (m : MacV) (l : List Int) : (crossM m l).length ≤ 3 * m.gears.toNat := by
 have key : ∀ gs : List Int, (gs.flatMap (crossG m l)).length ≤ 3 * gs.length := by
  intro gs
  induction gs with
  | nil => simp
  | cons g gs ih =>
   rw [List.flatMap_cons, List.length_append, List.length_cons]
   have : (crossG m l g).length ≤ 3 := by unfold crossG; exact Nat.le_trans (List.length_filterMap_le _ _) (by decide)
   omega
 have := key (gearsL m)
 simpa [crossM, gearsL] using this
/-- the crossing at a place of the walk. -/
theorem goodC_at {cs : List CrM} {r : List Int} (h : goodC r cs) {k : Nat} (hk : k < cs.length) : ∃ i : Nat, idxO ((cs.take k).foldl rowC r) (cs[k].going) = some (i : Int) ∧ i + 1 < ((cs.take k).foldl rowC r).length := by
 have e : cs = cs.take k ++ cs[k] :: cs.drop (k + 1) := by
  conv => lhs; rw [← List.take_append_drop k cs]
  rw [List.drop_eq_getElem_cons hk]
 rw [e, goodC_app] at h
 exact h.2.1
theorem weaveS_len (m : MacV) (st : List Int × List Int) (l : List Int) : (weaveS m st l).2.length = st.2.length + (crossM m l).length := fold_len _ _ _
end Go.Proofs.YtdeoogbiipodmaaGreat

namespace Go.Proofs.YtdeoogbiipodmaaGreat
set_option maxRecDepth 100000

theorem befo_irrefl (a : Nat × Int) : befo a a = false := by simp [befo]
theorem befo_false {a b : Nat × Int} : befo a b = false ↔ b.1 < a.1 ∨ (b.1 = a.1 ∧ b.2 ≤ a.2) := by
 unfold befo
 simp only [Bool.or_eq_false_iff, Bool.and_eq_false_imp, decide_eq_false_iff_not, decide_eq_true_eq]
 constructor
 ·rintro ⟨h1, h2⟩
  by_cases e : a.1 = b.1
  ·right; have := h2 e; omega
  ·left; omega
 ·rintro (h | ⟨h1, h2⟩)
  ·exact ⟨by omega, fun e => by omega⟩
  ·exact ⟨by omega, fun _ => by omega⟩
theorem foldF_spec (m : MacV) : ∀ (ps : List (Int × Int)) (acc : Option (Nat × Int)),
  (ps.foldl (fun b p => bestS b (meetM m p.1 p.2)) acc = none → acc = none ∧ ∀ p ∈ ps, meetM m p.1 p.2 = none) ∧
  (∀ b, ps.foldl (fun b p => bestS b (meetM m p.1 p.2)) acc = some b → (∀ a, acc = some a → befo a b = false) ∧ (∀ p ∈ ps, ∀ v, meetM m p.1 p.2 = some v → befo v b = false) ∧ (acc = some b ∨ ∃ p ∈ ps, meetM m p.1 p.2 = some b))
 | [], acc => ⟨fun h => ⟨h, fun p hp => absurd hp (by simp)⟩, fun b h => ⟨fun a ha => by rw [List.foldl_nil] at h; rw [ha] at h; cases h; exact befo_irrefl _, fun p hp => absurd hp (by simp), .inl h⟩⟩
 | q :: ps, acc => by
   rw [List.foldl_cons]
   obtain ⟨h1, h2⟩ := foldF_spec m ps (bestS acc (meetM m q.1 q.2))
   constructor
   · intro h
     obtain ⟨k1, k2⟩ := h1 h
     cases hm : meetM m q.1 q.2 with
     | none =>
       rw [hm] at k1
       exact ⟨k1, fun p hp => by rcases List.mem_cons.1 hp with rfl | hp; exact hm; exact k2 p hp⟩
     | some v =>
       rw [hm] at k1
       cases acc with
       | none => cases k1
       | some w => unfold bestS at k1; dsimp only at k1; split at k1 <;> cases k1
   · intro b h
     obtain ⟨k1, k2, k3⟩ := h2 b h
     cases hm : meetM m q.1 q.2 with
     | none =>
       rw [hm] at k1 k3
       refine ⟨k1, fun p hp v hv => ?_, ?_⟩
       · rcases List.mem_cons.1 hp with rfl | hp
         · rw [hm] at hv; cases hv
         · exact k2 p hp v hv
       · rcases k3 with k3 | ⟨p, hp, e⟩
         · exact .inl k3
         · exact .inr ⟨p, List.mem_cons_of_mem _ hp, e⟩
     | some v =>
       rw [hm] at k1 k3
       have low : ∀ c, bestS acc (some v) = some c → (∀ a, acc = some a → befo a c = false) ∧ befo v c = false ∧ (acc = some c ∨ v = c) := by
         intro c hc
         cases acc with
         | none => cases hc; exact ⟨fun a ha => (by cases ha), befo_irrefl _, .inr rfl⟩
         | some w =>
           unfold bestS at hc
           dsimp only at hc
           split at hc
           · rename_i hb
             cases hc
             refine ⟨fun a ha => ?_, befo_irrefl _, .inr rfl⟩
             cases ha
             unfold befo at hb
             simp only [Bool.or_eq_true, Bool.and_eq_true, decide_eq_true_eq] at hb
             rw [befo_false]; omega
           · rename_i hb
             cases hc
             exact ⟨fun a ha => (by cases ha; exact befo_irrefl _), by simpa using hb, .inl rfl⟩
       obtain ⟨c, hc⟩ : ∃ c, bestS acc (some v) = some c := by
         cases acc with
         | none => exact ⟨v, rfl⟩
         | some w => unfold bestS; dsimp only; split <;> exact ⟨_, rfl⟩
       obtain ⟨l1, l2, l3⟩ := low c hc
       have kc := k1 c hc
       have tr : ∀ a, befo a c = false → befo a b = false := by
         intro a ha
         rw [befo_false] at ha kc ⊢
         omega
       refine ⟨fun a ha => tr a (l1 a ha), fun p hp v' hv' => ?_, ?_⟩
       · rcases List.mem_cons.1 hp with rfl | hp
         · rw [hm] at hv'; cases hv'; exact tr _ l2
         · exact k2 p hp v' hv'
       · rcases k3 with k3 | ⟨p, hp, e⟩
         · rw [hc] at k3
           cases k3
           rcases l3 with l3 | l3
           · exact .inl l3
           · exact .inr ⟨q, List.mem_cons_self, by rw [hm, l3]⟩
         · exact .inr ⟨p, List.mem_cons_of_mem _ hp, e⟩
theorem pairsTo_mem {l : List Int} {p : Int × Int} {n : Nat} (hn : n ≤ l.length) : p ∈ pairsTo l n ↔ ∃ i j : Nat, j < i ∧ i < n ∧ p = (atD 0 l i, atD 0 l j) := by
 unfold pairsTo
 simp only [List.mem_flatMap, List.mem_range, List.mem_map]
 constructor
 ·rintro ⟨i, hi, b, hb, rfl⟩
  obtain ⟨j, hj, e⟩ := List.mem_iff_getElem.1 hb
  rw [List.length_take] at hj
  refine ⟨i, j, by omega, hi, ?_⟩
  rw [List.getElem_take] at e
  have hjl : j < l.length := by omega
  rw [← e]
  simp [atD, hjl]
 ·rintro ⟨i, j, hji, hi, rfl⟩
  have hjl : j < l.length := by omega
  refine ⟨i, hi, atD 0 l j, ?_, rfl⟩
  refine List.mem_iff_getElem.2 ⟨j, by simp; omega, ?_⟩
  simp [atD, hjl]
theorem hitM_symm (m : MacV) (x y : Int) : hitM m x y = hitM m y x := by
 unfold hitM
 by_cases e : placeM m x = placeM m y
 ·rw [e]
 ·rw [decide_eq_false e, decide_eq_false (show ¬ placeM m y = placeM m x from fun h => e h.symm), Bool.and_false, Bool.and_false]
/-- no meeting up to some steps. -/
theorem no_meets {m : MacV} {l : List Int} {n : Int} (h : meetsM m l n = false) {k : Nat} (hk : (k : Int) ≤ n) : NoHit m (l.map fun s => itM m s k) := by
 have key : ∀ i j : Nat, j < i → i < l.length → hitM m (itM m (atD 0 l i) k) (itM m (atD 0 l j) k) = false := by
  intro i j hji hi
  have hsp := meetM_spec m (atD 0 l i) (atD 0 l j)
  have hp := (pairsTo_mem (l := l) (n := l.length) (Nat.le_refl _)).2 ⟨i, j, hji, hi, rfl⟩
  obtain ⟨s1, s2⟩ := foldF_spec m (pairsTo l l.length) none
  cases hm : meetM m (atD 0 l i) (atD 0 l j) with
  | none => rw [hm] at hsp; exact hsp k
  | some v =>
   rw [hm] at hsp
   refine hsp.2.2 k ?_
   unfold meetsM at h
   cases hf : firstM m l with
   | none =>
    have := (s1 hf).2 _ hp
    rw [hm] at this; cases this
   | some b =>
    rw [hf] at h
    have hb := (s2 b hf).2.1 _ hp v hm
    rw [befo_false] at hb
    simp only [decide_eq_false_iff_not] at h
    omega
 intro x hx y hy hxy
 obtain ⟨a, ha, rfl⟩ := List.mem_map.1 hx
 obtain ⟨b, hb, rfl⟩ := List.mem_map.1 hy
 obtain ⟨i, hi, rfl⟩ := List.mem_iff_getElem.1 ha
 obtain ⟨j, hj, rfl⟩ := List.mem_iff_getElem.1 hb
 have ei : atD 0 l (i : Int) = l[i] := by simp [atD, hi]
 have ej : atD 0 l (j : Int) = l[j] := by simp [atD, hj]
 rcases Nat.lt_trichotomy j i with hl | hl | hl
 ·rw [← ei, ← ej]; exact key i j hl hi
 ·subst hl; exact absurd rfl hxy
 ·rw [← ei, ← ej, hitM_symm]; exact key j i hl hj
/-- the carriers after some steps. -/
noncomputable def atL (m : MacV) (l : List Int) (k : Nat) : List Int := l.map fun s => itM m s k
theorem atL_succ {m : MacV} {l : List Int} (hl : ∀ x ∈ l, 0 ≤ x ∧ x < 4 * m.gears) (k : Nat) : stepL m (atL m l k) = atL m l (k + 1) := by
 unfold atL stepL
 rw [List.map_map]
 exact List.map_congr_left (fun x hx => (itM_succ (hl x hx).1 (hl x hx).2 k).symm)
theorem atL_rng {m : MacV} {l : List Int} (hl : ∀ x ∈ l, 0 ≤ x ∧ x < 4 * m.gears) (k : Nat) : ∀ x ∈ atL m l k, 0 ≤ x ∧ x < 4 * m.gears := by
 intro x hx
 obtain ⟨y, hy, rfl⟩ := List.mem_map.1 hx
 exact itM_rng (hl y hy).1 (hl y hy).2 k
/-- row and letters after some steps. -/
noncomputable def wvM (m : MacV) (l : List Int) : Nat → List Int × List Int
 | 0 => (orderM m l, [])
 | k + 1 => weaveS m (wvM m l k) (atL m l k)
theorem wvM_row {m : MacV} {l : List Int} (hr : m.ring = false) (hl : ∀ x ∈ l, 0 ≤ x ∧ x < 4 * m.gears) {n : Int} (h : meetsM m l n = false) : ∀ k : Nat, (k : Int) ≤ n → (wvM m l k).1 = orderM m (atL m l k)
 | 0, _ => by
   show orderM m l = _
   have : atL m l 0 = l := by
     unfold atL
     conv => rhs; rw [← List.map_id l]
     exact List.map_congr_left (fun x _ => rfl)
   rw [this]
 | k + 1, hk => by
   have ih := wvM_row hr hl h k (by omega)
   obtain ⟨out', h1, _⟩ := weaveS_row m (atL m l k) (wvM m l k).2
   rw [wvM]
   rw [show wvM m l k = (orderM m (atL m l k), (wvM m l k).2) from Prod.ext ih rfl] at *
   rw [h1]
   have hno := no_meets h hk
   rw [show l.map (fun s => itM m s (k + 1)) = atL m l (k + 1) from rfl, ← atL_succ hl k] at hno
   show afterM m (atL m l k) = _
   rw [order_step hr (atL_rng hl k) hno, atL_succ hl k]
theorem wvM_mono (m : MacV) (l : List Int) : ∀ {j k : Nat}, j ≤ k → (wvM m l j).2.length ≤ (wvM m l k).2.length := by
 intro j k hjk
 induction hjk with
 | refl => exact Nat.le_refl _
 | step _ ih => rw [wvM, weaveS_len]; omega
theorem orderM_len (m : MacV) (l : List Int) : (orderM m l).length ≤ 4 * m.gears.toNat := by
 rw [orderM_seq]
 refine Nat.le_trans (List.length_filterMap_le _ _) ?_
 have key : ∀ gs : List Int, (gs.flatMap (slotsG m)).length = 4 * gs.length := by
  intro gs
  induction gs with
  | nil => rfl
  | cons g gs ih => rw [List.flatMap_cons, List.length_append, ih, slotsG_eq, List.length_cons]; simp only [List.length_cons, List.length_nil]; omega
 rw [key]
 simp [gearsL]
/-- the error ahead of a word. -/
noncomputable def weaveE (m : MacV) (l : List Int) (n : Int) : Int := if loadE m l ≠ 0 then loadE m l else if m.ring = true then 13 else if 12 < l.length then 5 else if n < 0 ∨ 1000 < n then 3 else if meetsM m l n = true then 16 else 0
theorem weaveE_zero {m : MacV} {l : List Int} {n : Int} (h : weaveE m l n = 0) : LoadOk m l ∧ m.ring = false ∧ l.length ≤ 12 ∧ 0 ≤ n ∧ n ≤ 1000 ∧ meetsM m l n = false := by
 unfold weaveE at h
 split at h
 ·rename_i h1; exact absurd h h1
 ·rename_i h1
  split at h
  ·omega
  ·rename_i h2
   split at h
   ·omega
   ·rename_i h3
    split at h
    ·omega
    ·rename_i h4
     split at h
     ·omega
     ·rename_i h5
      exact ⟨loadE_zero (by simpa using h1), by simpa using h2, by omega, by omega, by omega, by simpa using h5⟩
end Go.Proofs.YtdeoogbiipodmaaGreat

namespace Go.Proofs.YtdeoogbiipodmaaGreat
open Go.RowKit Go.Shelf
attribute [local go_sem] Oper.semAt_some
set_option maxHeartbeats 8000000
set_option maxRecDepth 100000

section
variable {F : Fence} {nn : Nat} {P : Program} {ops : Array Oper} {Q : Exit → Act → World → Prop} {a : Act} {w : World} {rest : List Oper} {ty : TypeId} {p : String} {af : Array Edge} {g : Option (Nat × Bool)}
end
abbrev gC (m : MacV) (g : Int) : Array Value := #[.int .i64 (slotG m g 0), .int .i64 (slotG m g 1), .int .i64 (slotG m g 2), .int .i64 (slotG m g 3)]
def gearV (m : MacV) (g : Int) : Array Value := #[.int .i64 g, .agg (gC m g)]
def gearsTo (k : Nat) : List Int := (List.range k).map fun (g : Nat) => (g : Int)
theorem gearsTo_succ (k : Nat) : gearsTo (k + 1) = gearsTo k ++ [(k : Int)] := by simp [gearsTo, List.range_succ]
theorem gearsTo_len (k : Nat) : (gearsTo k).length = k := by simp [gearsTo]
/-- the slots of a gear while they are set. -/
def mixC (f : Bool) (g : Int) (j : Nat) : Array Value :=
 #[.int .i64 (if 0 < j then 4 * g else 0), .int .i64 ((if f then 1 else 3) + (if 1 < j then 4 * g else 0)), .int .i64 ((if f then 3 else 1) + (if 2 < j then 4 * g else 0)), .int .i64 (2 + (if 3 < j then 4 * g else 0))]
theorem mixC_end (m : MacV) (g : Int) : mixC (fwdM m g) g 4 = gC m g := by
 cases hf : fwdM m g <;> simp [mixC, gC, slotG, hf] <;> omega

theorem gears1_in (mm l bm : Nat) (m : MacV) (ad : Option Addr) (cap : Nat) (n : Nat) (hn : m.gears = n) (hn2 : n ≤ 16) (hm : 1 ≤ mm) (J Jx : List (Slot n) → World → Prop)
  (hY : ∀ pre (x : Slot n) W, J pre W → pre.length < n → YieldAt Fence.wide (mm - 1) Tryz.prog l (gearV m x.1) W fun e W' =>
   (e = .returned (.bool true) ∧ J (pre ++ [x]) W' ∧ KeepAt bm W W') ∨ (e = .returned (.bool false) ∧ Jx (pre ++ [x]) W'))
  (hJ : ∀ pre (W W' : World), J pre W → W.grownBy W' none → J pre W')
  (W : World) (hWm : W.heap[bm]? = some (.cells (mC m ad cap) 24)) (h0 : J [] W) :
  CallsIn Fence.wide mm Tryz.prog 88 #[.func (.yield l) #[] #[], .pointer (some ⟨bm, 0, none⟩)] W fun e W' => (∃ v, e = .returned v) ∧
   ((∃ ys : List (Slot n), ys.map (·.1) = gearsTo n ∧ J ys W') ∨ (∃ pre, Jx pre W')) := by
 have c1 : W.cell? ⟨bm, 1, none⟩ = some (.int .i64 m.gears) := by simp [World.cell?, hWm]
 have hge1 : (n : Int) ≤ m.gears := by omega
 have hge2 : m.gears ≤ (n : Int) := by omega
 clear hn
 refine callsIn_of_wp Tryz.func88 rfl trivial ?_ rfl
 simp only [Tryz.ntmps88, List.size_toArray, List.length_cons, List.length_nil, Nat.reduceAdd, Nat.reduceSub, Array.replicate_succ, Array.replicate_zero, List.push_toArray, List.append_toArray, List.nil_append, List.cons_append]
 gi_wp2
 gi_loopw [8] (fun x wr => ∃ (k : Nat) (pre : List (Slot n)), k ≤ n ∧ x = .int .i64 k ∧ pre.map (·.1) = gearsTo k ∧ J pre wr ∧ wr.heap[bm]? = some (.cells (mC m ad cap) 24)) (fun x _ => n - (intOf x).toNat)
 case atStart => exact ⟨0, [], by omega, rfl, rfl, h0, hWm⟩
 case round =>
  obtain ⟨k, pre, hk, rfl, hpre, hJs, hwm⟩ := hrel
  have hlen : pre.length = k := by have := congrArg List.length hpre; simpa [gearsTo_len] using this
  obtain ⟨V, rfl⟩ : ∃ V, V = wr := ⟨wr, rfl⟩
  by_cases hlt : k < n
  ·have HHP := hid hpre; have HLN := hid hlen
   clear hpre hlen
   have CF := fun w => forwards_any m ad cap (k : Int) w (by omega) (by omega)
   have hme := mixC_end m k
   cases hf : fwdM m k
   ·rw [hf] at CF hme
    have HF := hid CF; have HME := hid hme
    clear CF hf hme
    have hbl : bm < V.heap.size := (Array.getElem?_eq_some_iff.1 hwm).1
    have kk : ∀ j u, (mC m ad cap)[j]? = some u → (V.alloc (.cells #[.int .i64 0, .int .i64 3, .int .i64 1, .int .i64 2] 98)).cell? ⟨bm, j, none⟩ = some u := by
     intro j u hu
     have := Below.heap_alloc V (.cells #[.int .i64 0, .int .i64 3, .int .i64 1, .int .i64 2] 98) bm hbl
     simp [World.cell?, this, hwm, hu]
    have k0 := kk 0 _ rfl
    have k1 := kk 1 _ rfl
    have k2 := kk 2 _ rfl
    have k3 := kk 3 _ rfl
    have hS0 := (SL.nil V).box (.cells #[.int .i64 0, .int .i64 3, .int .i64 1, .int .i64 2] 98)
    gi_wp2
    refine ⟨trivial, (callsIn_wide.2 (HF.out _)).mono ?_⟩
    rintro e w2 ⟨rfl, b2⟩
    have hS2 := hS0.mono b2
    clear k0 k1 k2 k3 kk
    gi_wp2
    clear HF
    gi_loopw [16] (fun i wq => ∃ j : Nat, j ≤ 4 ∧ i = .int .i64 j ∧ SL V.heap.size V wq [pBlk V.heap.size (.cells (mixC false k j) 98)]) (fun i _ => 4 - (intOf i).toNat)
    case atStart => exact ⟨0, by omega, rfl, hS2⟩
    case round =>
     clear hS2 hS0 b2
     obtain ⟨j, hj, rfl, hSq⟩ := hrel
     have hj5 : j = 0 ∨ j = 1 ∨ j = 2 ∨ j = 3 ∨ j = 4 := by omega
     have f0 := hSq.frozen 0 rfl 0
     have f1 := hSq.frozen 0 rfl 1
     have f2 := hSq.frozen 0 rfl 2
     have f3 := hSq.frozen 0 rfl 3
     rcases hj5 with rfl | rfl | rfl | rfl | rfl
     ·have q := hSq.cell 0 rfl 0 (u := .int .i64 0) (by simp [mixC])
      have hw : IntKind.i64.wrap (0 + 4 * (k : Int)) = 0 + 4 * (k : Int) := IntWalk.i64_in _ (by omega)
      gi_wp2
      go_roundw
      case rel => exact ⟨1, by omega, rfl, hSq.set 0 rfl 0 _⟩
      case measure => simp [intOf]
     ·have q := hSq.cell 0 rfl 1 (u := .int .i64 3) (by simp [mixC])
      have hw : IntKind.i64.wrap (3 + 4 * (k : Int)) = 3 + 4 * (k : Int) := IntWalk.i64_in _ (by omega)
      gi_wp2
      go_roundw
      case rel => exact ⟨2, by omega, rfl, hSq.set 0 rfl 1 _⟩
      case measure => simp [intOf]
     ·have q := hSq.cell 0 rfl 2 (u := .int .i64 1) (by simp [mixC])
      have hw : IntKind.i64.wrap (1 + 4 * (k : Int)) = 1 + 4 * (k : Int) := IntWalk.i64_in _ (by omega)
      gi_wp2
      go_roundw
      case rel => exact ⟨3, by omega, rfl, hSq.set 0 rfl 2 _⟩
      case measure => simp [intOf]
     ·have q := hSq.cell 0 rfl 3 (u := .int .i64 2) (by simp [mixC])
      have hw : IntKind.i64.wrap (2 + 4 * (k : Int)) = 2 + 4 * (k : Int) := IntWalk.i64_in _ (by omega)
      gi_wp2
      go_roundw
      case rel => exact ⟨4, by omega, rfl, hSq.set 0 rfl 3 _⟩
      case measure => simp [intOf]
     ·rw [HME.out] at hSq
      have q0 := hSq.cell 0 rfl 0 rfl
      have q1 := hSq.cell 0 rfl 1 rfl
      have q2 := hSq.cell 0 rfl 2 rfl
      have q3 := hSq.cell 0 rfl 3 rfl
      have hwm2 := (hSq.b.block bm hbl).trans hwm
      obtain ⟨fn, tmps, assign, body, hy, hR⟩ := hY pre ⟨(k : Int), by omega, by omega⟩ wr (hJ _ _ _ hJs (grown_of_below hSq.b)) (by have := HLN.out; omega)
      unfold gearV at hy
      dsimp only at hy
      clear hY f0 f1 f2 f3
      gi_wp2
      refine hR.mono ?_
      rintro e W3 (⟨rfl, hJ3, hk3⟩ | ⟨rfl, hJx3⟩)
      ·gi_wp2
       go_roundw
       case rel => exact ⟨k + 1, _, by omega, by go_num, by rw [List.map_append, HHP.out, gearsTo_succ]; rfl, hJ3, Eq.trans hk3 hwm2⟩
       case measure => simp [intOf]; omega
      ·gi_wp2
       refine bodyPost_ret (results_none rfl _ _ _) rfl ?_
       exact ⟨⟨_, rfl⟩, .inr ⟨_, hJx3⟩⟩
   ·rw [hf] at CF hme
    have HF := hid CF; have HME := hid hme
    clear CF hf hme
    have hbl : bm < V.heap.size := (Array.getElem?_eq_some_iff.1 hwm).1
    have kk : ∀ j u, (mC m ad cap)[j]? = some u → (V.alloc (.cells #[.int .i64 0, .int .i64 3, .int .i64 1, .int .i64 2] 98)).cell? ⟨bm, j, none⟩ = some u := by
     intro j u hu
     have := Below.heap_alloc V (.cells #[.int .i64 0, .int .i64 3, .int .i64 1, .int .i64 2] 98) bm hbl
     simp [World.cell?, this, hwm, hu]
    have k0 := kk 0 _ rfl
    have k1 := kk 1 _ rfl
    have k2 := kk 2 _ rfl
    have k3 := kk 3 _ rfl
    have hS0 := (SL.nil V).box (.cells #[.int .i64 0, .int .i64 3, .int .i64 1, .int .i64 2] 98)
    gi_wp2
    refine ⟨trivial, (callsIn_wide.2 (HF.out _)).mono ?_⟩
    rintro e w2 ⟨rfl, b2⟩
    have hS2 := hS0.mono b2
    clear k0 k1 k2 k3 kk
    have z0 := hS2.cell 0 rfl 0 rfl
    have z1 := hS2.cell 0 rfl 1 rfl
    have z2 := hS2.cell 0 rfl 2 rfl
    have z3 := hS2.cell 0 rfl 3 rfl
    have f0 := hS2.frozen 0 rfl 0
    have f1 := hS2.frozen 0 rfl 1
    have f2 := hS2.frozen 0 rfl 2
    have f3 := hS2.frozen 0 rfl 3
    have hS3 := (((hS2.set 0 rfl 0 (.int .i64 0)).set 0 rfl 1 (.int .i64 1)).set 0 rfl 2 (.int .i64 3)).set 0 rfl 3 (.int .i64 2)
    clear hS2
    have hS2 := hS3
    clear hS3
    gi_wp2
    clear z0 z1 z2 z3 f0 f1 f2 f3
    gi_loopw [16] (fun i wq => ∃ j : Nat, j ≤ 4 ∧ i = .int .i64 j ∧ SL V.heap.size V wq [pBlk V.heap.size (.cells (mixC true k j) 98)]) (fun i _ => 4 - (intOf i).toNat)
    case atStart => exact ⟨0, by omega, rfl, hS2⟩
    case round =>
     clear hS2 hS0 b2
     obtain ⟨j, hj, rfl, hSq⟩ := hrel
     have hj5 : j = 0 ∨ j = 1 ∨ j = 2 ∨ j = 3 ∨ j = 4 := by omega
     have f0 := hSq.frozen 0 rfl 0
     have f1 := hSq.frozen 0 rfl 1
     have f2 := hSq.frozen 0 rfl 2
     have f3 := hSq.frozen 0 rfl 3
     rcases hj5 with rfl | rfl | rfl | rfl | rfl
     ·have q := hSq.cell 0 rfl 0 (u := .int .i64 0) (by simp [mixC])
      have hw : IntKind.i64.wrap (0 + 4 * (k : Int)) = 0 + 4 * (k : Int) := IntWalk.i64_in _ (by omega)
      gi_wp2
      go_roundw
      case rel => exact ⟨1, by omega, rfl, hSq.set 0 rfl 0 _⟩
      case measure => simp [intOf]
     ·have q := hSq.cell 0 rfl 1 (u := .int .i64 1) (by simp [mixC])
      have hw : IntKind.i64.wrap (1 + 4 * (k : Int)) = 1 + 4 * (k : Int) := IntWalk.i64_in _ (by omega)
      gi_wp2
      go_roundw
      case rel => exact ⟨2, by omega, rfl, hSq.set 0 rfl 1 _⟩
      case measure => simp [intOf]
     ·have q := hSq.cell 0 rfl 2 (u := .int .i64 3) (by simp [mixC])
      have hw : IntKind.i64.wrap (3 + 4 * (k : Int)) = 3 + 4 * (k : Int) := IntWalk.i64_in _ (by omega)
      gi_wp2
      go_roundw
      case rel => exact ⟨3, by omega, rfl, hSq.set 0 rfl 2 _⟩
      case measure => simp [intOf]
     ·have q := hSq.cell 0 rfl 3 (u := .int .i64 2) (by simp [mixC])
      have hw : IntKind.i64.wrap (2 + 4 * (k : Int)) = 2 + 4 * (k : Int) := IntWalk.i64_in _ (by omega)
      gi_wp2
      go_roundw
      case rel => exact ⟨4, by omega, rfl, hSq.set 0 rfl 3 _⟩
      case measure => simp [intOf]
     ·rw [HME.out] at hSq
      have q0 := hSq.cell 0 rfl 0 rfl
      have q1 := hSq.cell 0 rfl 1 rfl
      have q2 := hSq.cell 0 rfl 2 rfl
      have q3 := hSq.cell 0 rfl 3 rfl
      have hwm2 := (hSq.b.block bm hbl).trans hwm
      obtain ⟨fn, tmps, assign, body, hy, hR⟩ := hY pre ⟨(k : Int), by omega, by omega⟩ wr (hJ _ _ _ hJs (grown_of_below hSq.b)) (by have := HLN.out; omega)
      unfold gearV at hy
      dsimp only at hy
      clear hY f0 f1 f2 f3
      gi_wp2
      refine hR.mono ?_
      rintro e W3 (⟨rfl, hJ3, hk3⟩ | ⟨rfl, hJx3⟩)
      ·gi_wp2
       go_roundw
       case rel => exact ⟨k + 1, _, by omega, by go_num, by rw [List.map_append, HHP.out, gearsTo_succ]; rfl, hJ3, Eq.trans hk3 hwm2⟩
       case measure => simp [intOf]; omega
      ·gi_wp2
       refine bodyPost_ret (results_none rfl _ _ _) rfl ?_
       exact ⟨⟨_, rfl⟩, .inr ⟨_, hJx3⟩⟩
  ·have hkn : k = n := by omega
   subst hkn
   gi_wp2
   go_end0
   exact ⟨⟨_, rfl⟩, .inl ⟨pre, hpre, hJs⟩⟩
/-- gears' value hands out the gears from left to right. -/
theorem gears_stops (mm bm : Nat) (m : MacV) (ad : Option Addr) (cap : Nat) (n : Nat) (hn : m.gears = n) (hn2 : n ≤ 16) (hm : 1 ≤ mm) (w : World) (hbm : bm < w.heap.size) (hWm : w.heap[bm]? = some (.cells (mC m ad cap) 24)) :
  SeqStopsK Fence.wide mm Tryz.prog 88 #[.pointer (some ⟨bm, 0, none⟩)] (fun x : Slot n => gearV m x.1) (KeepAt bm) (fun ys => ys.map (·.1) = gearsTo n) (fun _ => True) n w := fun l J Jx W hW hJ _ hY h0 => by
 refine (gears1_in mm l bm m ad cap n hn hn2 hm J Jx hY (fun pre A B hA hg => hJ _ _ _ none hA hg (fun r e => by cases e)) W ((hW.block _ hbm).trans hWm) h0).mono ?_
 rintro e W' ⟨he, ⟨ys, hys, hj⟩ | ⟨pre, hj⟩⟩
 ·exact ⟨he, .inl ⟨ys, hys, hj⟩⟩
 ·exact ⟨he, .inr ⟨pre, trivial, hj⟩⟩
theorem gears_any (m : MacV) (ad : Option Addr) (cap : Nat) (w : World) :
  Calls Tryz.prog 55 #[mV m ad cap] w fun r w' =>
   r = .returned (.func (.func 88) #[] #[.pointer (some ⟨w.heap.size, 0, none⟩)]) ∧ w' = w.alloc (.cells (mC m ad cap) 24) := by
 go_enter Tryz.func55, Tryz.ntmps55
 go_wp2
 go_ret
 exact ⟨rfl, rfl⟩
end Go.Proofs.YtdeoogbiipodmaaGreat

namespace Go.Proofs.YtdeoogbiipodmaaGreat
open Go.RowKit
set_option maxRecDepth 100000

theorem run_index4 (w : World) (a b c d : Value) (k : Int) (h0 : 0 ≤ k) (h1 : k < 4) : (Instr.index 98 (.agg #[a, b, c, d]) (.int .i64 k)).run Tryz.prog w = .ok ([a, b, c, d].getD k.toNat undef) w := by
 have hi : (Tryz.prog.info? 3).map (fun i => (i.zero, i.size, i.bytes)) = some (some (.int .i64 0), 1, 8) := by kernel_rfl
 obtain ⟨i, hi, _, hs, _⟩ := info_parts hi
 have hF := F_int
 obtain ⟨dd, hu, hd⟩ := hF
 have hk : k.toNat = 0 ∨ k.toNat = 1 ∨ k.toNat = 2 ∨ k.toNat = 3 := by omega
 have hagg : (isAgg 3).run Tryz.prog w = .ok false w := by
  unfold isAgg
  rw [Sem.run_bind, run_underlying hu w]
  cases dd <;> simp_all
 rcases hk with hk | hk | hk | hk <;> simp [Instr.index, asIntOf, run_underlying Tryz.underlying98, h0, h1, sizeOf, typeInfo, hi, hs, hk, part, hagg, Sem.run_bind]
theorem run_index32 (w : World) (a b c d e f : Value) (k : Int) (h0 : 0 ≤ k) (h1 : k < 3) : (Instr.index 100 (.agg #[a, b, c, d, e, f]) (.int .i64 k)).run Tryz.prog w = .ok ([.agg #[a, b], .agg #[c, d], .agg #[e, f]].getD k.toNat undef) w := by
 have hi2 : (Tryz.prog.info? 99).map (·.size) = some 2 := by kernel_rfl
 obtain ⟨i, hi, hs⟩ : ∃ i, Tryz.prog.info? 99 = some i ∧ i.size = 2 := by
  cases hi : Tryz.prog.info? 99 with
  | none => rw [hi] at hi2; cases hi2
  | some i => rw [hi] at hi2; exact ⟨i, rfl, by simpa using hi2⟩
 obtain ⟨dd, hu, hd⟩ := A_two
 have hk : k.toNat = 0 ∨ k.toNat = 1 ∨ k.toNat = 2 := by omega
 have hagg : (isAgg 99).run Tryz.prog w = .ok true w := by
  unfold isAgg
  rw [Sem.run_bind, run_underlying hu w]
  cases dd <;> simp_all
 rcases hk with hk | hk | hk <;> simp [Instr.index, asIntOf, run_underlying Tryz.underlying100, h0, h1, sizeOf, typeInfo, hi, hs, hk, part, hagg, Sem.run_bind]

section
variable {F : Fence} {n : Nat} {P : Program} {ops : Array Oper} {md : Region.Mode} {C : World → Prop}
theorem Oper.wpIn_of_quietR {o : Oper} {a : Act} {K : Act → Prop} {K' : Act → World → Prop} {Q' : Exit → Act → World → Prop} {w : World} (hnd : ∀ c, o.op ≠ .defer c) (hw : C w) (h : ∀ a w', C w' → K a → K' a w')
  (ha : o.askedIn F P a C) (hh : o.quietIn F n P a C K) : o.wpIn F n P a w K' Q' := by
 obtain ⟨v, h1, h2⟩ := hh
 have h3 := h1 w hw
 unfold Oper.quietAtIn at h3
 unfold Oper.wpIn
 refine ⟨ha w hw, ?_⟩
 rw [Oper.semAt_plain F _ _ hnd]
 generalize (execOp a.eval o).run P w = r at *
 cases r with
 | ok x w' =>
  cases x <;> simp only [Oper.quietUponIn] at h3 <;> simp only [Oper.uponIn]
  case value u =>
   obtain ⟨e1, e2⟩ := h3
   rw [e1, e2]
   exact h _ _ hw h2
  case skip =>
   obtain ⟨e1, e2⟩ := h3
   rw [e1, ← e2]
   exact h _ _ hw h2
  case enter f args =>
   obtain ⟨e1, hd, hc⟩ := h3
   rw [e1]
   exact ⟨hd, hc.mono fun e w'' ⟨he, hw''⟩ => by subst he; exact h _ _ hw'' h2⟩
 | halt x w' => simp only [Oper.quietUponIn] at h3
theorem wpOpIn_of_qOpInR {i : Nat} {a : Act} {K : Act → Prop} {K' : Act → World → Prop} {Q' : Exit → Act → World → Prop} {w : World} (hnd : ∀ o, ops[i]? = some o → ∀ c, o.op ≠ .defer c) (hC : C w) (h : ∀ a w', C w' → K a → K' a w')
  (hh : qOpIn F n P ops C i K a) : wpOpIn F n P ops Q' i K' a w := by
 unfold qOpIn at hh
 unfold wpOpIn
 split
 ·rename_i ho; simp only [ho] at hh; exact h _ _ hC hh
 ·rename_i o ho
  simp only [ho] at hh
  obtain ⟨ha, hh⟩ := hh
  split
  ·rename_i hw; simp only [hw, if_true] at hh; exact Oper.wpIn_of_quietR (hnd o ho) hC h ha hh
  ·rename_i hw; simp only [hw] at hh; exact ⟨ha w hC, h _ _ hC hh⟩
theorem wpAnyIn_of_quietR {Q : Act → Prop} {Q' : Exit → Act → World → Prop} (hnd : ∀ (i : Nat) o, ops[i]? = some o → ∀ c, o.op ≠ .defer c) (hQ : ∀ a w, C w → Q a → Q' .normal a w) : ∀ (fuel : Nat) (listed : Array Bool) (a : Act) (w : World), C w →
  wpAnyQIn F n P md ops C Q fuel listed a → wpAnyIn F n P md ops Q' fuel listed a w
 | 0, _, _, _, hw, h => ⟨h.1, hQ _ _ hw h.2⟩
 | fuel + 1, _, _, _, hw, h => ⟨fun h0 => hQ _ _ hw (h.1 h0), fun i hi => wpOpIn_of_qOpInR (hnd i) hw (fun a' w' hw' => wpAnyIn_of_quietR hnd hQ fuel _ a' w' hw') (h.2 i hi)⟩
theorem wpIn_region_quietR {id : Nat} {Q : Exit → Act → World → Prop} {a : Act} {w : World} {l : List Oper} (hnd : l.all (fun o => match o.op with | .defer _ => false | _ => true) = true) (hm : P.follows .mixedOrders = true) (hB : Region.lexB .any l.toArray = true)
  (h : wpQuietIn F n P l.toArray (fun w' => ∃ n, w' = w.drewN n) (fun a' => ∀ w', (∃ n, w' = w.drewN n) → Q .normal a' w') l a) : (Code.region id l.toArray true).wpIn F n P Q a w := by
 simp only [Region.lexB, Bool.and_eq_true] at hB
 have hnd' : ∀ (i : Nat) o, l.toArray[i]? = some o → ∀ c, o.op ≠ .defer c := by
  intro i o ho c hc
  have hm : o ∈ l := List.mem_of_getElem? (by simpa using ho)
  have := List.all_eq_true.1 hnd o hm
  rw [hc] at this
  cases this
 refine wpIn_region_any hm (wpAnyIn_of_quietR (C := fun w' => ∃ n, w' = w.drewN n) (Q := fun a' => ∀ w', (∃ n, w' = w.drewN n) → Q .normal a' w') hnd' (fun _ w' hw' h => h w' hw') _ _ _ _ ⟨1, rfl⟩ ?_)
 have := wpAnyQIn_lex (F := F) (n := n) (C := fun w' => ∃ n, w' = w.drewN n) (md := .any) hB.1 l 0 (Array.replicate l.toArray.size false) a (by simp) (by simpa using hB.2) (by simpa using h)
 simpa using this
theorem wpQIn_val {Q : Act → Prop} {a : Act} {o : Oper} {rest : List Oper} (v : Value) (hg : o.guard = none) (ha : ∀ w, o.about P w a.eval = none) (hr : ∀ w', (execOp a.eval o).run P w' = .ok (.value v) w')
  (h : wpQuietIn F n P ops C Q rest (a.put o.dst v)) : wpQuietIn F n P ops C Q (o :: rest) a := by
 refine ⟨fun w _ f hf => (by rw [ha w] at hf; cases hf), ?_⟩
 rw [if_pos (by simp [Region.wanted, hg])]
 refine ⟨v, fun w' _ => ?_, h⟩
 unfold Oper.quietAtIn
 rw [hr w']
 exact ⟨rfl, rfl⟩
theorem wpQIn_load {Q : Act → Prop} {a : Act} {rest : List Oper} {w : World} {d : Tmp} {e : TypeId} {s : Operand} {ty : TypeId} {p : String} {af : Array Edge} {pa : Addr} {v : Value} (hF : Flat P e) (hs : a.eval s = .pointer (some pa)) (hc : w.cell? pa = some v)
  (h : wpQuietIn F n P ops (fun w' => ∃ n, w' = w.drewN n) Q rest (a.put (some d) v)) : wpQuietIn F n P ops (fun w' => ∃ n, w' = w.drewN n) Q (⟨some d, .load e s, ty, p, af, none⟩ :: rest) a := by
 refine ⟨fun w _ f hf => (by simp [Oper.about] at hf), ?_⟩
 rw [if_pos (by simp [Region.wanted])]
 refine ⟨v, fun w' hw' => ?_, h⟩
 obtain ⟨k, rfl⟩ := hw'
 unfold Oper.quietAtIn
 have := run_loadAt_cell (P := P) (w.drewN k) (a := pa) (v := v) hF hc
 simp [execOp, hs, this, Result.andThen]
 exact ⟨rfl, rfl⟩
end
end Go.Proofs.YtdeoogbiipodmaaGreat

namespace Go.Proofs.YtdeoogbiipodmaaGreat
open Go.RowKit Go.Shelf
attribute [local go_sem] Oper.semAt_some
attribute [local go_sem ↓] run_index4
set_option maxHeartbeats 8000000
set_option maxRecDepth 100000

theorem idxL_O (l : List Int) (x : Int) : idxL l x = (idxO l x).getD (-1) := by
 unfold idxL idxO
 split <;> rfl
theorem sIndexO_any (a : Option Addr) (cap : Nat) (l : List Int) (x : Int) (w : World) (h : Ints w a cap l) :
  Calls Tryz.prog 23 #[.slice a l.length cap, .int .i64 x] w fun r w' => r = .returned (.int .i64 ((idxO l x).getD (-1))) ∧ w = w' := by
 have := sIndex_any a cap l x w h
 rwa [idxL_O] at this
theorem slotsG_take (m : MacV) (g : Int) {j : Nat} (h : j < 4) : (slotsG m g).take (j + 1) = (slotsG m g).take j ++ [slotG m g j] := by
 rw [slotsG_eq]
 have : j = 0 ∨ j = 1 ∨ j = 2 ∨ j = 3 := by omega
 rcases this with rfl | rfl | rfl | rfl <;> rfl

theorem order_any (m : MacV) (ad : Option Addr) (cap : Nat) (al : Option Addr) (cl : Nat) (l : List Int) (w : World) (hL : Ints w al cl l) (h0 : 0 ≤ m.gears) (h1 : m.gears ≤ 16) :
  Calls Tryz.prog 21 #[mV m ad cap, .slice al l.length cl] w fun r w' => ∃ v, r = .returned v ∧ OwnI w.heap.size w' v (orderM m l) ∧ Below w.heap.size w w' := by
 have hcap := hL.le
 have hm := hL.max
 refine callsIn_wide.1 (callsIn_of_wp_marks (n := 9) (F := Fence.wide) Tryz.func21 rfl trivial ?_ rfl)
 simp only [Tryz.ntmps21, List.size_toArray, List.length_cons, List.length_nil, Nat.reduceAdd, Nat.reduceSub, Array.replicate_succ, Array.replicate_zero, List.push_toArray, List.append_toArray, List.nil_append, List.cons_append]
 refine wpIn_wide.2 ?_
 have hS := ((((SL.nil w).box (.cells (mC m ad cap) 24)).box (.cells #[.slice al l.length cl] 22)).nilS (α := Int) (e := 3) cIntS).box (.cells #[.slice none 0 0] 22)
 simp only [World.size_alloc] at hS
 have q3 := (hS.blk 3 rfl).1
 go_wp2_with (with_reducible refine wpList_ldS (n := 4) (us := mC m ad cap) A_mach kR wU wU (by assumption) wU wU ?_)
 refine (gears_any m ad cap _).mono ?_
 rintro e w3 ⟨rfl, rfl⟩
 have hS2 := hS.box (.cells (mC m ad cap) 24)
 simp only [World.size_alloc] at hS2
 go_wp2_with fail
 obtain ⟨n, hn⟩ : ∃ n : Nat, m.gears = n := ⟨m.gears.toNat, by omega⟩
 have hgl : gearsL m = gearsTo n := by unfold gearsL gearsTo; rw [hn]; rfl
 have hn16 : n ≤ 16 := by omega
 have hokT : ∀ (lv : Value) (L : List Int), ∀ q ∈ [pBlk (w.heap.size + 1 + 1 + 1) (.cells (mC m ad cap) 24), pBlk (w.heap.size + 1 + 1) (.cells #[lv] 22), pOwn cInt 1 3 lv L, pBlk (w.heap.size + 1) (.cells #[.slice al l.length cl] 22), pBlk w.heap.size (.cells (mC m ad cap) 24)], q.okT (w.heap.size + 1 + 1 + 1 + 1) := by
  intro lv L q hq
  simp only [List.mem_cons, List.not_mem_nil, or_false] at hq
  rcases hq with rfl | rfl | rfl | rfl | rfl
  ·exact okT_cells
  ·exact okT_cells
  ·exact okT_own
  ·exact okT_cells
  ·exact okT_cells
 have HOK := hid hokT; have HN := hid hn; have HGL := hid hgl
 have hS3 := hS2.pick [0, 1, 2, 3, 4] (by decide) [pBlk (w.heap.size + 1 + 1 + 1) (.cells (mC m ad cap) 24), pBlk (w.heap.size + 1 + 1) (.cells #[.slice none 0 0] 22), pOwn cInt 1 3 (.slice none 0 0) [], pBlk (w.heap.size + 1) (.cells #[.slice al l.length cl] 22), pBlk w.heap.size (.cells (mC m ad cap) 24)] rfl
 clear hokT hgl q3 hS hS2
 refine (wpIn_wide (n := 9)).1 ?_
 refine wpIn_rangeFunc_ownH rfl (by decide) (gf := 88) (lb := #[.pointer (some ⟨w.heap.size + 1 + 1 + 1, 0, none⟩)]) rfl trivial (enters_of Tryz.func88 kR rfl)
  (gears_stops 8 (w.heap.size + 1 + 1 + 1) m ad cap n hn hn16 (by decide) _ (by simp) (hS3.blk 0 rfl).1)
  (fun h1 h2 => Eq.trans h2 h1) (fun W j o o' hj _ _ _ => World.putObj_heap_other (by simp at hj; omega)) (Below.refl _ _) (fun _ => rfl)
  (fun pre W => pre.length ≤ n ∧ ∃ lv, SL w.heap.size w W [pBlk (w.heap.size + 1 + 1 + 1) (.cells (mC m ad cap) 24), pBlk (w.heap.size + 1 + 1) (.cells #[lv] 22), pOwn cInt 1 3 lv (pre.flatMap fun x => orderG m l x.1), pBlk (w.heap.size + 1) (.cells #[.slice al l.length cl] 22), pBlk w.heap.size (.cells (mC m ad cap) 24)])
  (fun _ _ _ => False) ?hI (fun _ _ _ _ _ hs _ _ => hs) ⟨by simp, .slice none 0 0, hS3⟩
  (fun x a' W => ∃ b, a' = { tmps := #[mV m ad cap, .slice al l.length cl, .pointer (some ⟨w.heap.size, 0, none⟩), .pointer (some ⟨w.heap.size + 1, 0, none⟩), .slice none 0 0, .pointer (some ⟨w.heap.size + 1 + 1, 0, none⟩), undef, .pointer (some ⟨b, 0, none⟩), undef, undef, undef, mV m ad cap, .func (.func 88) #[] #[.pointer (some ⟨w.heap.size + 1 + 1 + 1, 0, none⟩)], .int .i64 x.1, .agg (gC m x.1), undef, undef, undef, undef, undef, undef, undef, undef, undef, undef, undef, undef, undef, undef, undef], defers := [] } ∧ W.heap[b]? = some (.cells (gC m x.1) 98)) ?hAx ?assign ?body ?done ?stop
 case hI =>
  rintro s A B row ⟨hs1, lv, hs⟩ hg hr
  exact ⟨hs1, lv, hs.turn (C := w.heap.size + 1 + 1 + 1 + 1) (by omega) (HOK.out _ _) hg (fun r e => by have := hr r e; simpa using this)⟩
 case hAx =>
  rintro x a' s A B row ⟨b, e, hb⟩ hg hr
  refine ⟨b, e, (hg.block b (Array.getElem?_eq_some_iff.1 hb).1 (fun e2 => ?_)).trans hb⟩
  obtain ⟨_, o, ho, hc⟩ := hr b e2.symm
  rw [hb] at ho; cases ho; cases hc
 case assign =>
  rintro q pre x W K ⟨hpl, lv, hs⟩ hK
  dsimp only [gearV]
  gi_wp2
  refine hK _ _ ((KeepsOthers.alloc _ _).from _) (Below.heap_alloc _ _ _ (hs.blk 0 rfl).2.2) ⟨hpl, lv, hs.al _⟩ ⟨W.heap.size, rfl, ?_⟩
  exact heap_alloc_new W _
 case body =>
  rintro q pre x a' W - - ⟨hpl, lv, hs⟩ ⟨b, rfl, hb⟩ hlt
  have hbm := (hs.blk 0 rfl).1
  have hal : (pre.flatMap fun x => orderG m l x.1).length ≤ 64 := by
   have key : ∀ p : List (Slot n), (p.flatMap fun x => orderG m l x.1).length ≤ 4 * p.length := by
    intro p
    induction p with
    | nil => simp
    | cons y p ih =>
     rw [List.flatMap_cons, List.length_append, List.length_cons]
     have : (orderG m l y.1).length ≤ 4 := by unfold orderG; refine Nat.le_trans (List.length_filterMap_le _ _) ?_; rw [slotsG_eq]; exact Nat.le_refl 4
     omega
   have := key pre
   omega
  have q0 : W.cell? ⟨b, 0, none⟩ = some (.int .i64 (slotG m x.1 0)) := by simp [World.cell?, hb]
  have q1 : W.cell? ⟨b, 1, none⟩ = some (.int .i64 (slotG m x.1 1)) := by simp [World.cell?, hb]
  have q2 : W.cell? ⟨b, 2, none⟩ = some (.int .i64 (slotG m x.1 2)) := by simp [World.cell?, hb]
  have q3 : W.cell? ⟨b, 3, none⟩ = some (.int .i64 (slotG m x.1 3)) := by simp [World.cell?, hb]
  have htk := fun j h => slotsG_take m x.1 (j := j) h
  have hfin : (pre ++ [x]).flatMap (fun x => orderG m l x.1) = (pre.flatMap fun x => orderG m l x.1) ++ ((slotsG m x.1).take 4).filterMap (idxO l) := by
   rw [List.flatMap_append]; simp [orderG, slotsG_eq]
  obtain ⟨acc, hacc⟩ : ∃ acc, acc = (pre.flatMap fun x => orderG m l x.1) := ⟨_, rfl⟩
  rw [← hacc] at hs hal hfin
  have hx0 := x.2.1
  have hx1 := x.2.2
  have HTK := hid htk; have HFIN := hid hfin
  clear hb htk hfin hacc HN
  gi_wp2
  clear q0 q1 q2 q3
  gi_loopw [16] (fun i wq => ∃ (j : Nat) (lv : Value), j ≤ 4 ∧ i = .int .i64 j ∧ KeepsOthers W wq ∧ SL w.heap.size w wq [pBlk (w.heap.size + 1 + 1 + 1) (.cells (mC m ad cap) 24), pBlk (w.heap.size + 1 + 1) (.cells #[lv] 22), pOwn cInt 1 3 lv (acc ++ ((slotsG m x.1).take j).filterMap (idxO l)), pBlk (w.heap.size + 1) (.cells #[.slice al l.length cl] 22), pBlk w.heap.size (.cells (mC m ad cap) 24)]) (fun i _ => 4 - (intOf i).toNat)
  case atStart => exact ⟨0, lv, by omega, rfl, KeepsOthers.refl _, by simpa using hs⟩
  case round =>
   clear hs
   obtain ⟨j, lw, hj, rfl, hko, hSq⟩ := hrel
   have hlen : (acc ++ ((slotsG m x.1).take j).filterMap (idxO l)).length ≤ 70 := by
    rw [List.length_append]
    have := List.length_filterMap_le (idxO l) ((slotsG m x.1).take j)
    rw [List.length_take] at this
    omega
   obtain ⟨A, hA⟩ : ∃ A, A = acc ++ ((slotsG m x.1).take j).filterMap (idxO l) := ⟨_, rfl⟩
   rw [← hA] at hSq hlen
   have HA := hid hA
   clear hA
   have hj5 : j = 0 ∨ j = 1 ∨ j = 2 ∨ j = 3 ∨ j = 4 := by omega
   have hlc := hSq.cell 3 rfl 0 rfl
   have hlb := hSq.cell 1 rfl 0 rfl
   have hlf := hSq.frozen 1 rfl 0
   have hLq := hL.below hSq.b
   rcases hj5 with rfl | rfl | rfl | rfl | rfl
   ·have CI := fun w h => sIndexO_any al cl l (slotG m x.1 0) w h
    have ht := HTK.out 0 (by omega)
    obtain ⟨S, hS⟩ : ∃ S, S = slotG m x.1 0 := ⟨_, rfl⟩
    rw [← hS] at CI ht ⊢
    cases hi : idxO l S with
    | none =>
     rw [hi] at CI
     have HC := hid CI; have HT := hid ht; have HI := hid hi
     clear CI hS hi ht
     gi_wp2
     refine ⟨trivial, (callsIn_wide.2 (HC.out _ hLq)).mono ?_⟩
     rintro e w' ⟨rfl, rfl⟩
     gi_wp2
     go_roundw
     case rel => exact ⟨1, lw, by omega, rfl, hko, by rw [HT.out, List.filterMap_append, ← List.append_assoc, ← HA.out]; simpa [HI.out] using hSq⟩
     case measure => simp [intOf]
    | some k =>
     have hk := (idxO_some hi).1
     rw [hi] at CI
     have HC := hid CI; have HT := hid ht; have HI := hid hi
     clear CI hS hi ht
     have hob := hSq.own 2 rfl
     gi_wp2
     refine ⟨trivial, (callsIn_wide.2 (HC.out _ hLq)).mono ?_⟩
     rintro e w' ⟨rfl, rfl⟩
     gi_wp2_with (((with_reducible refine wpListIn_pushL (y := _) 2 E_ints wU wU (hSq) wU cIntO ⟨rfl, rfl⟩ (by first | with_unfolding_all rfl | simp) wU (by first | omega | (simp; omega)) (by first | omega | (simp; omega)) ?_); intro v6 w6 hP hg6 _); obtain ⟨a6, c6, rfl, _⟩ := hP.slice 2 rfl; have hlb6 := hP.cell 1 rfl 0 rfl; have hlf6 := hP.frozen 1 rfl 0)
     have hP2 := hP.set 1 rfl 0 (.slice a6 (A ++ [k]).length c6)
     have eL : (A ++ [k]).length = A.length + 1 := by simp
     rw [eL] at hP2
     go_roundw
     case rel =>
      refine ⟨1, .slice a6 (A.length + 1) c6, by omega, rfl, hko.trans ((KeepsOthers.of_grownBy hg6 fun j o ej hj => ?_).trans (KeepsOthers.setCell _ _ _)), ?_⟩
      ·obtain ⟨o', h1, h2⟩ := own_isCells hob ej
       have h3 := hj.symm.trans h1
       cases h3; exact h2
      ·rw [HT.out, List.filterMap_append]
       have e2 : [S].filterMap (idxO l) = [k] := by simp [HI.out]
       rw [e2, ← List.append_assoc, ← HA.out]
       exact hP2
     case measure => simp [intOf]
   ·have CI := fun w h => sIndexO_any al cl l (slotG m x.1 1) w h
    have ht := HTK.out 1 (by omega)
    obtain ⟨S, hS⟩ : ∃ S, S = slotG m x.1 1 := ⟨_, rfl⟩
    rw [← hS] at CI ht ⊢
    cases hi : idxO l S with
    | none =>
     rw [hi] at CI
     have HC := hid CI; have HT := hid ht; have HI := hid hi
     clear CI hS hi ht
     gi_wp2
     refine ⟨trivial, (callsIn_wide.2 (HC.out _ hLq)).mono ?_⟩
     rintro e w' ⟨rfl, rfl⟩
     gi_wp2
     go_roundw
     case rel => exact ⟨2, lw, by omega, rfl, hko, by rw [HT.out, List.filterMap_append, ← List.append_assoc, ← HA.out]; simpa [HI.out] using hSq⟩
     case measure => simp [intOf]
    | some k =>
     have hk := (idxO_some hi).1
     rw [hi] at CI
     have HC := hid CI; have HT := hid ht; have HI := hid hi
     clear CI hS hi ht
     have hob := hSq.own 2 rfl
     gi_wp2
     refine ⟨trivial, (callsIn_wide.2 (HC.out _ hLq)).mono ?_⟩
     rintro e w' ⟨rfl, rfl⟩
     gi_wp2_with (((with_reducible refine wpListIn_pushL (y := _) 2 E_ints wU wU (hSq) wU cIntO ⟨rfl, rfl⟩ (by first | with_unfolding_all rfl | simp) wU (by first | omega | (simp; omega)) (by first | omega | (simp; omega)) ?_); intro v6 w6 hP hg6 _); obtain ⟨a6, c6, rfl, _⟩ := hP.slice 2 rfl; have hlb6 := hP.cell 1 rfl 0 rfl; have hlf6 := hP.frozen 1 rfl 0)
     have hP2 := hP.set 1 rfl 0 (.slice a6 (A ++ [k]).length c6)
     have eL : (A ++ [k]).length = A.length + 1 := by simp
     rw [eL] at hP2
     go_roundw
     case rel =>
      refine ⟨2, .slice a6 (A.length + 1) c6, by omega, rfl, hko.trans ((KeepsOthers.of_grownBy hg6 fun j o ej hj => ?_).trans (KeepsOthers.setCell _ _ _)), ?_⟩
      ·obtain ⟨o', h1, h2⟩ := own_isCells hob ej
       have h3 := hj.symm.trans h1
       cases h3; exact h2
      ·rw [HT.out, List.filterMap_append]
       have e2 : [S].filterMap (idxO l) = [k] := by simp [HI.out]
       rw [e2, ← List.append_assoc, ← HA.out]
       exact hP2
     case measure => simp [intOf]
   ·have CI := fun w h => sIndexO_any al cl l (slotG m x.1 2) w h
    have ht := HTK.out 2 (by omega)
    obtain ⟨S, hS⟩ : ∃ S, S = slotG m x.1 2 := ⟨_, rfl⟩
    rw [← hS] at CI ht ⊢
    cases hi : idxO l S with
    | none =>
     rw [hi] at CI
     have HC := hid CI; have HT := hid ht; have HI := hid hi
     clear CI hS hi ht
     gi_wp2
     refine ⟨trivial, (callsIn_wide.2 (HC.out _ hLq)).mono ?_⟩
     rintro e w' ⟨rfl, rfl⟩
     gi_wp2
     go_roundw
     case rel => exact ⟨3, lw, by omega, rfl, hko, by rw [HT.out, List.filterMap_append, ← List.append_assoc, ← HA.out]; simpa [HI.out] using hSq⟩
     case measure => simp [intOf]
    | some k =>
     have hk := (idxO_some hi).1
     rw [hi] at CI
     have HC := hid CI; have HT := hid ht; have HI := hid hi
     clear CI hS hi ht
     have hob := hSq.own 2 rfl
     gi_wp2
     refine ⟨trivial, (callsIn_wide.2 (HC.out _ hLq)).mono ?_⟩
     rintro e w' ⟨rfl, rfl⟩
     gi_wp2_with (((with_reducible refine wpListIn_pushL (y := _) 2 E_ints wU wU (hSq) wU cIntO ⟨rfl, rfl⟩ (by first | with_unfolding_all rfl | simp) wU (by first | omega | (simp; omega)) (by first | omega | (simp; omega)) ?_); intro v6 w6 hP hg6 _); obtain ⟨a6, c6, rfl, _⟩ := hP.slice 2 rfl; have hlb6 := hP.cell 1 rfl 0 rfl; have hlf6 := hP.frozen 1 rfl 0)
     have hP2 := hP.set 1 rfl 0 (.slice a6 (A ++ [k]).length c6)
     have eL : (A ++ [k]).length = A.length + 1 := by simp
     rw [eL] at hP2
     go_roundw
     case rel =>
      refine ⟨3, .slice a6 (A.length + 1) c6, by omega, rfl, hko.trans ((KeepsOthers.of_grownBy hg6 fun j o ej hj => ?_).trans (KeepsOthers.setCell _ _ _)), ?_⟩
      ·obtain ⟨o', h1, h2⟩ := own_isCells hob ej
       have h3 := hj.symm.trans h1
       cases h3; exact h2
      ·rw [HT.out, List.filterMap_append]
       have e2 : [S].filterMap (idxO l) = [k] := by simp [HI.out]
       rw [e2, ← List.append_assoc, ← HA.out]
       exact hP2
     case measure => simp [intOf]
   ·have CI := fun w h => sIndexO_any al cl l (slotG m x.1 3) w h
    have ht := HTK.out 3 (by omega)
    obtain ⟨S, hS⟩ : ∃ S, S = slotG m x.1 3 := ⟨_, rfl⟩
    rw [← hS] at CI ht ⊢
    cases hi : idxO l S with
    | none =>
     rw [hi] at CI
     have HC := hid CI; have HT := hid ht; have HI := hid hi
     clear CI hS hi ht
     gi_wp2
     refine ⟨trivial, (callsIn_wide.2 (HC.out _ hLq)).mono ?_⟩
     rintro e w' ⟨rfl, rfl⟩
     gi_wp2
     go_roundw
     case rel => exact ⟨4, lw, by omega, rfl, hko, by rw [HT.out, List.filterMap_append, ← List.append_assoc, ← HA.out]; simpa [HI.out] using hSq⟩
     case measure => simp [intOf]
    | some k =>
     have hk := (idxO_some hi).1
     rw [hi] at CI
     have HC := hid CI; have HT := hid ht; have HI := hid hi
     clear CI hS hi ht
     have hob := hSq.own 2 rfl
     gi_wp2
     refine ⟨trivial, (callsIn_wide.2 (HC.out _ hLq)).mono ?_⟩
     rintro e w' ⟨rfl, rfl⟩
     gi_wp2_with (((with_reducible refine wpListIn_pushL (y := _) 2 E_ints wU wU (hSq) wU cIntO ⟨rfl, rfl⟩ (by first | with_unfolding_all rfl | simp) wU (by first | omega | (simp; omega)) (by first | omega | (simp; omega)) ?_); intro v6 w6 hP hg6 _); obtain ⟨a6, c6, rfl, _⟩ := hP.slice 2 rfl; have hlb6 := hP.cell 1 rfl 0 rfl; have hlf6 := hP.frozen 1 rfl 0)
     have hP2 := hP.set 1 rfl 0 (.slice a6 (A ++ [k]).length c6)
     have eL : (A ++ [k]).length = A.length + 1 := by simp
     rw [eL] at hP2
     go_roundw
     case rel =>
      refine ⟨4, .slice a6 (A.length + 1) c6, by omega, rfl, hko.trans ((KeepsOthers.of_grownBy hg6 fun j o ej hj => ?_).trans (KeepsOthers.setCell _ _ _)), ?_⟩
      ·obtain ⟨o', h1, h2⟩ := own_isCells hob ej
       have h3 := hj.symm.trans h1
       cases h3; exact h2
      ·rw [HT.out, List.filterMap_append]
       have e2 : [S].filterMap (idxO l) = [k] := by simp [HI.out]
       rw [e2, ← List.append_assoc, ← HA.out]
       exact hP2
     case measure => simp [intOf]
   ·have hbq := (hSq.blk 0 rfl).1
    gi_wp2
    refine ⟨hko.from _, ?_, ?_⟩
    ·show _ = _
     rw [hbq, hbm]
    ·refine ⟨by rw [List.length_append]; exact hlt, lw, ?_⟩
     rw [HFIN.out, ← HA.out]
     exact hSq
 case done =>
  rintro D ys W hD hys ⟨hpl, lv, hs0⟩ hK
  have hs := hs0.addMark (C := w.heap.size + 1 + 1 + 1 + 1) (HOK.out _ _) (by omega) (by simpa using hD) hK
  clear hs0
  have hc := hs.cell 2 rfl 0 rfl
  have hfin : (ys.flatMap fun x => orderG m l x.1) = orderM m l := by
   unfold orderM
   rw [HGL.out, ← hys, List.flatMap_map]
  rw [hfin] at hs
  clear hys hfin
  dsimp only
  go_wp2_with fail
  refine SL.leave (L := [_, _, _, _, _]) (fun V hV => ⟨lv, ?_, _, rfl, hV.own 2 rfl, hV.b⟩) [D] W hs
  simp [results, Tryz.f21, go_sem]
 case stop =>
  rintro D c pre W _ _ h _
  exact h.elim
end Go.Proofs.YtdeoogbiipodmaaGreat
