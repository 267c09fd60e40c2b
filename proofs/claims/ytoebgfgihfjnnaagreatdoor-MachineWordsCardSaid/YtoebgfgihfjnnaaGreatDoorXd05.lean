/- Contracts and plain facts that the claim uses (KnM CiB Lib2 Lib3 ItA RtP RtM TpF MaB MaD MaE). Conditions: as each one states. -/
import Derived.Shelf.Strconv.Itoa3
import Derived.Shelf.LaysM
import Derived.Shelf.Strconv.ErrVarAll
import Derived.Shelf.Strconv.AtoiAll
import Derived.Shelf.Strings.Cut
import Derived.Shelf.Strings.Split
import Derived.Shelf.Strings.SplitShaped
import Derived.Lib.AppendIntMem
import Derived.Lib.SmallJoins
import Derived.LaidSub
import Derived.Lib.LaidTab
import Derived.Maps.Ext
import Derived.Maps.RangeWalk
import Derived.Maps.OwnSet
import Derived.Lib.Split
import Derived.Lib.AtoiAll
import Derived.Lib.AtoiErrMem
import Derived.Deep.RegionHeld3
import Derived.Deep.AppendLies
import Derived.Deep.RegionHeldLaw
import Derived.Deep.RegionLaw
import Derived.Stop.LaidErr
import Derived.Test.YtoebgfgihfjnnaaGreatDoorXd01
import Derived.Test.YtoebgfgihfjnnaaGreatDoorXd02
import Derived.Test.YtoebgfgihfjnnaaGreatDoorXd03
import Derived.Test.YtoebgfgihfjnnaaGreatDoorXd04
set_option linter.all false

namespace Go.Proofs.YtoebgfgihfjnnaaGreatDoor
open Go.RowKit
set_option maxHeartbeats 4000000
set_option maxRecDepth 100000

end Go.Proofs.YtoebgfgihfjnnaaGreatDoor

namespace Go.Proofs.YtoebgfgihfjnnaaGreatDoor
open Go.RowKit
set_option maxHeartbeats 4000000
set_option maxRecDepth 100000

theorem rCycles_any (a : Option Addr) (cap : Nat) (p : List Int) (w : World) (hS : Ints w a cap p) (hp : IsP p) (hn : p.length ≤ 100000) :
  Calls Tryz.prog 150 #[.slice a p.length cap] w fun r w' => ∃ (v : Value) (qs : List (SlH × List Int)), r = .returned v ∧ qs.map Prod.snd = cycK p p.length ∧ SL w.heap.size w w' (pOwn cSl 1 22 v (qs.map Prod.fst) :: qs.map inP) := by
 have hcap := hS.le
 have hm0 := hS.max
 have hS0 := SL.nil w
 go_enter Tryz.func150, Tryz.ntmps150
 go_wp2_with ((with_reducible refine wpList_makeL (c := cBool) (p.length) (false) E_bools cBool1 wU wU (by omega) (by omega) (hS0) ?_); intro ad w1 hS1)
 have hS2 := hS1.nilS (α := SlH) (c := cSl) (sz := 1) (e := 22) cSlS
 go_loopw [3, 5, 6, 7] (fun ov i _ _ wr => ∃ (j : Nat) (S : List Bool) (qs : List (SlH × List Int)), j ≤ p.length ∧ i = .int .i64 j ∧ S.length = p.length ∧ (∀ x : Int, 0 ≤ x → x < p.length → atD false S x = decide (x ∈ (cycK p j).flatten)) ∧ qs.map Prod.snd = cycK p j ∧ SL w.heap.size w wr (pOwn cSl 1 22 ov (qs.map Prod.fst) :: pOwn cBool 1 4 (.slice ad p.length p.length) S :: qs.map inP)) (fun _ i _ _ _ => p.length - (intOf i).toNat)
 case atStart =>
  refine ⟨0, List.replicate p.length false, [], by omega, rfl, by simp, fun x h0 h1 => ?_, rfl, hS2⟩
  have : x.toNat < p.length := by omega
  simp [atD, cycK, this]
 case round =>
  obtain ⟨j, S, qs, hj, rfl, hlen, hsn, hqs, hSL⟩ := hrel
  have HSN := hid hsn; have HL := hid hlen; have HQ := hid hqs
  have hql : qs.length ≤ j := by have := cycK_len p j; rw [← hqs] at this; simpa using this
  have hqlen : (qs.map Prod.fst).length ≤ 100000 := by simp; omega
  clear hsn hlen hqs
  by_cases hlt : j < p.length
  ·have hj0 : (0 : Int) ≤ j := by omega
   have hj1 : (j : Int) < p.length := by omega
   by_cases hin : (j : Int) ∈ (cycK p j).flatten
   ·have hsk := HSN.out j hj0 hj1
    rw [decide_eq_true hin] at hsk
    have HSK := hid hsk; have HIN := hid hin
    clear hsk hin
    go_wp2_with fail
    go_loopw [6, 7] (fun cv kv wq => cv = .slice none 0 0 ∧ kv = .int .i64 j ∧ wr = wq) (fun _ _ _ => 0)
    case atStart => exact ⟨rfl, rfl, rfl⟩
    case round =>
     obtain ⟨rfl, rfl, rfl⟩ := hrel
     have hRB := hSL.rd 1 rfl
     go_wp2_with ((with_reducible refine wpList_idxN _ false E_bools F_bool cBool1 wU wU (hRB) (HL.out) oD oD (fun _ => wU) (fun _ => ?_)); rw [HSK.out])
     refine ⟨⟨j + 1, S, qs, by omega, by go_num, HL.out, ?_, ?_, hSL⟩, by simp [intOf]; omega⟩
     ·rw [cycK_in HIN.out]; exact HSN.out
     ·rw [cycK_in HIN.out]; exact HQ.out
   ·obtain ⟨d, hd⟩ := ord_ex hp hj0 hj1
    have hd0 := hd.pos
    have hd1 := hd.le
    have HIN := hid hin; have HD := hid hd
    clear hin hd
    go_wp2_with fail
    have hSc := hSL.nilS (α := Int) (c := cInt) (sz := 1) (e := 3) cIntS
    go_loopw [6, 7] (fun cv kv wq => ∃ m : Nat, m ≤ d ∧ kv = .int .i64 (itP p j m) ∧ lenV cv = m ∧ SL w.heap.size w wq (pOwn cInt 1 3 cv (orbK p j m) :: pOwn cSl 1 22 u3 (qs.map Prod.fst) :: pOwn cBool 1 4 (.slice ad p.length p.length) (markL S (orbK p j m)) :: qs.map inP)) (fun cv _ _ => d - lenV cv)
    case atStart => exact ⟨0, by omega, rfl, rfl, hSc⟩
    case round =>
     clear hSc
     obtain ⟨m, hm, rfl, hlv, hSq⟩ := hrel
     have HLV := hid hlv; clear hlv
     have hml := markL_len S (orbK p j m)
     rw [HL.out] at hml
     have hol := orbK_len p j m
     have hole : (orbK p j m).length ≤ 100000 := by rw [hol]; omega
     obtain ⟨x0, x1⟩ := itP_rng hp hj0 hj1 m
     have hin2 : ∀ x ∈ orbK p j m, 0 ≤ x ∧ x < S.length := by
      intro x hx
      obtain ⟨i, _, rfl⟩ := List.mem_map.1 hx
      rw [HL.out]; exact itP_rng hp hj0 hj1 i
     have hat := markL_at (orbK p j m) S hin2 (itP p j m) x0
     rw [HSN.out _ x0 x1] at hat
     have hsuc := orbK_succ p j m
     have hmk := markL_snoc S (orbK p j m) (itP p j m)
     rw [← hsuc] at hmk
     have hSr := hS.below hSq.b
     have hRB := hSq.rd 2 rfl
     have HML := hid hml; have HSU := hid hsuc; have HMK := hid hmk; have HOL := hid hol
     obtain ⟨X, hX⟩ : ∃ X, X = itP p j m := ⟨_, rfl⟩
     have hnx : atD 0 p X = itP p j (m + 1) := by rw [hX]; rfl
     have HNX := hid hnx
     by_cases hmd : m < d
     ·have hf1 := orbK_out hp hlt HIN.out HD.out hm
      have hf2 := orbK_new hp hj0 hj1 HD.out hmd
      rw [decide_eq_false hf1, decide_eq_false hf2] at hat
      have HAT := hid hat
      clear hat hf1 hf2 hin2 hml hsuc hmk hol hnx
      rw [← hX] at HAT HSU HMK x0 x1 ⊢
      clear hX
      have hxm : X < (markL S (orbK p j m)).length := by rw [HML.out]; exact x1
      go_wp2_with (first | ((with_reducible refine wpList_idxN _ false E_bools F_bool cBool1 wU wU (hRB) (HML.out) oD oD (fun _ => wU) (fun _ => ?_)); rw [HAT.out]) | ((with_reducible refine wpList_storeL (u := true) 2 E_bools cBool1 (sto_bool) wU wU (hSq) wU (by first | omega | (simp; done) | (simp; omega)) (by first | omega | (simp; done) | (simp; omega)) (fun _ => wU) (fun _ => wU) ?_); intro _ w3 hS3) | ((with_reducible refine wpList_pushL (y := X) 0 E_ints wU wU (hS3) wU cIntO ⟨rfl, rfl⟩ (by first | with_unfolding_all rfl | simp) wU (by first | omega | (simp; omega)) (by first | omega | (simp; omega)) ?_); intro v4 w4 hS4) | (with_reducible refine wpList_idx _ 0 E_ints F_int cInt1 wU wU ((hS.below hS4.b)) oD oD (fun _ => wU) (fun _ => ?_)))
      obtain ⟨a4, c4, e4, _⟩ := hS4.slice 0 rfl
      have hl4 : lenV v4 = m + 1 := by rw [e4]; show (orbK p j m ++ [X]).length = m + 1; rw [List.length_append, HOL.out]; rfl
      refine ⟨⟨m + 1, hmd, by rw [HNX.out], hl4, by rw [HSU.out, markL_snoc]; exact hS4⟩, ?_⟩
      rw [hl4, HLV.out]
      omega
     ·have : m = d := by omega
      subst this
      have hmem : itP p j m ∈ orbK p j m := by rw [HD.out.back]; exact List.mem_map.2 ⟨0, by simp [hd0], rfl⟩
      rw [decide_eq_true hmem, Bool.or_true] at hat
      have HAT := hid hat
      have hmarks : ∀ x : Int, 0 ≤ x → x < p.length → atD false (markL S (orbK p j m)) x = decide (x ∈ (cycK p (j + 1)).flatten) := by
       intro x h0 h1
       rw [markL_at (orbK p j m) S hin2 x h0, HSN.out x h0 h1, cycK_out HIN.out, orb_eq HD.out]
       simp [orbK]
      have HMARK := hid hmarks
      clear hat hmem hin2 hml hsuc hmk hol hnx hX hmarks x0 x1
      obtain ⟨al, cl, rfl, _⟩ := hSq.slice 0 rfl
      have hxd : itP p j m = j := HD.out.back
      have HXD := hid hxd; clear hxd
      have hjm : (j : Int) < (markL S (orbK p j m)).length := by rw [HML.out]; exact hj1
      rw [HXD.out] at HAT ⊢
      have hop : 0 < (orbK p j m).length := by rw [HOL.out]; exact hd0
      go_wp2_with (first | ((with_reducible refine wpList_idxN _ false E_bools F_bool cBool1 wU wU (hRB) (HML.out) oD oD (fun _ => wU) (fun _ => ?_)); rw [HAT.out]) | ((with_reducible refine wpList_pushL (y := ((al, (orbK p j m).length, cl) : SlH)) 1 E_sls wU wU (hSq) wU cSlO ⟨rfl, rfl⟩ (by first | with_unfolding_all rfl | simp) wU (by first | omega | (simp; omega)) (by first | omega | (simp; omega)) ?_); intro v4 w4 hP))
      refine ⟨⟨j + 1, markL S (orbK p j m), qs ++ [((al, (orbK p j m).length, cl), orbK p j m)], by omega, by go_num, HML.out, HMARK.out, ?_, ?_⟩, by simp [intOf]; omega⟩
      ·rw [List.map_append, HQ.out, cycK_out HIN.out, orb_eq HD.out]; rfl
      ·refine hP.perm ?_
       rw [List.map_append, List.map_append]
       exact List.perm_append_comm (l₁ := [_])
  ·have : j = p.length := by omega
   subst this
   clear hqlen
   go_wp2_with fail
   go_ret
   refine ⟨_, qs, rfl, HQ.out, ?_⟩
   exact (SL.comm (K := [_]) (L := qs.map inP) (SL.pickA (K := [_, _]) (M := qs.map inP) hSL [0] (by decide) (by simp) [_] rfl)).comm
end Go.Proofs.YtoebgfgihfjnnaaGreatDoor

namespace Go.Proofs.YtoebgfgihfjnnaaGreatDoor
open Go.RowKit
set_option maxHeartbeats 2000000
set_option maxRecDepth 100000

theorem decD_first {u : Nat} (h : 0 < u) : ∃ b r, Lib.decDigits u = b :: r ∧ 49 ≤ b.toNat ∧ b.toNat ≤ 57 := by
 induction u using Nat.strongRecOn with
 | _ u ih =>
  by_cases h10 : u < 10
  ·rw [decD_small h10]
   refine ⟨_, [], rfl, ?_⟩
   rw [digB h10]; omega
  ·rw [decD_big h10]
   obtain ⟨b, r, e, h1, h2⟩ := ih (u / 10) (by omega) (by omega)
   rw [e]
   exact ⟨b, r ++ [UInt8.ofNat (48 + u % 10)], rfl, h1, h2⟩
end Go.Proofs.YtoebgfgihfjnnaaGreatDoor

namespace Go.Proofs
open Go.Shelf
def Tryz.laysM171_ren : Go.Shelf.Ren := ⟨fun | 171 => 84 | 243 => 122 | 246 => 153 | 283 => 178 | 284 => 179 | 285 => 180 | 286 => 181 | 129 => 205 | 317 => 204 | 318 => 206 | 319 => 207 | 320 => 208 | 337 => 226 | 338 => 227 | n => n, fun | 3 => 3 | 9 => 9 | 2 => 2 | 4 => 4 | 171 => 211 | 0 => 0 | 53 => 212 | 37 => 153 | 5 => 5 | 173 => 215 | 212 => 236 | 51 => 237 | 20 => 20 | 213 => 238 | 46 => 239 | 232 => 273 | 233 => 274 | n => n, fun | 17 => 1 | 18 => 6 | 19 => 7 | n => n⟩
theorem Tryz.laysM171 : Go.Proofs.LaysM.n171 Tryz.prog Tryz.laysM171_ren := {
 mixed := by kernel_rfl
 f129 := Tryz.func205.trans (congrArg some (by kernel_rfl))
 f171 := Tryz.func84.trans (congrArg some (by kernel_rfl))
 f243 := Tryz.func122.trans (congrArg some (by kernel_rfl))
 f246 := Tryz.func153.trans (congrArg some (by kernel_rfl))
 f283 := Tryz.func178.trans (congrArg some (by kernel_rfl))
 f284 := Tryz.func179.trans (congrArg some (by kernel_rfl))
 f285 := Tryz.func180.trans (congrArg some (by kernel_rfl))
 f286 := Tryz.func181.trans (congrArg some (by kernel_rfl))
 f317 := Tryz.func204.trans (congrArg some (by kernel_rfl))
 f318 := Tryz.func206.trans (congrArg some (by kernel_rfl))
 f319 := Tryz.func207.trans (congrArg some (by kernel_rfl))
 f320 := Tryz.func208.trans (congrArg some (by kernel_rfl))
 f337 := Tryz.func226.trans (congrArg some (by kernel_rfl))
 f338 := Tryz.func227.trans (congrArg some (by kernel_rfl))
 t0 := Tryz.underlying0
 a0 := Tryz.isAgg0
 z0 := Tryz.sizeOf0
 v0 := Tryz.zeroValue0
 t2 := Tryz.underlying2
 a2 := Tryz.isAgg2
 z2 := Tryz.sizeOf2
 v2 := Tryz.zeroValue2
 t3 := Tryz.underlying3
 a3 := Tryz.isAgg3
 z3 := Tryz.sizeOf3
 v3 := Tryz.zeroValue3
 t4 := Tryz.underlying4
 a4 := Tryz.isAgg4
 z4 := Tryz.sizeOf4
 v4 := Tryz.zeroValue4
 t5 := Tryz.underlying5
 a5 := Tryz.isAgg5
 z5 := Tryz.sizeOf5
 v5 := Tryz.zeroValue5
 t9 := Tryz.underlying9
 a9 := Tryz.isAgg9
 z9 := Tryz.sizeOf9
 v9 := Tryz.zeroValue9
 t20 := Tryz.underlying20
 a20 := Tryz.isAgg20
 z20 := Tryz.sizeOf20
 v20 := Tryz.zeroValue20
 t37 := Tryz.underlying153
 a37 := Tryz.isAgg153
 z37 := Tryz.sizeOf153
 v37 := Tryz.zeroValue153
 t46 := Tryz.underlying239
 a46 := Tryz.isAgg239
 z46 := Tryz.sizeOf239
 v46 := Tryz.zeroValue239
 t51 := Tryz.underlying237
 a51 := Tryz.isAgg237
 z51 := Tryz.sizeOf237
 v51 := Tryz.zeroValue237
 t53 := Tryz.underlying212
 a53 := Tryz.isAgg212
 z53 := Tryz.sizeOf212
 v53 := Tryz.zeroValue212
 t171 := Tryz.underlying211
 a171 := Tryz.isAgg211
 z171 := Tryz.sizeOf211
 v171 := Tryz.zeroValue211
 t173 := Tryz.underlying215
 a173 := Tryz.isAgg215
 z173 := Tryz.sizeOf215
 v173 := Tryz.zeroValue215
 t212 := Tryz.underlying236
 a212 := Tryz.isAgg236
 z212 := Tryz.sizeOf236
 v212 := Tryz.zeroValue236
 t213 := Tryz.underlying238
 a213 := Tryz.isAgg238
 z213 := Tryz.sizeOf238
 t232 := Tryz.underlying273
 a232 := Tryz.isAgg273
 z232 := Tryz.sizeOf273
 v232 := Tryz.zeroValue273
 t233 := Tryz.underlying274
 a233 := Tryz.isAgg274
 z233 := Tryz.sizeOf274
 v233 := Tryz.zeroValue274
 g17 := by kernel_rfl
 g18 := by kernel_rfl
 g19 := by kernel_rfl
 i0 := by kernel_rfl
 i2 := by kernel_rfl
 i3 := by kernel_rfl
 i4 := by kernel_rfl
 i5 := by kernel_rfl
 i9 := by kernel_rfl
 i20 := by kernel_rfl
 i37 := by kernel_rfl
 i46 := by kernel_rfl
 i51 := by kernel_rfl
 i53 := by kernel_rfl
 i171 := by kernel_rfl
 i173 := by kernel_rfl
 i212 := by kernel_rfl
 i232 := by kernel_rfl
 i233 := by kernel_rfl
 m17 := by kernel_rfl
 m18 := by kernel_rfl
 m19 := by kernel_rfl }
open Go.RowKit Go.Sort Go.Lib in
/-- strconv.Itoa: "Itoa is equivalent to FormatInt(int64(i), 10).": i's DECIMAL NUMERAL ('Lib.itoa': a '-' where i is negative, then the digits), FOR EVERY int. The world behind the call: the world before it, new blocks behind the heap (the library's 'var a [24]byte'), draws. (LAID: no walk: one application.) -/
theorem Tryz.strconv_Itoa (n : Int) (h0 : -9223372036854775808 ≤ n) (h1 : n ≤ 9223372036854775807) (w : World) (htab : Lib.TabIs Tryz.prog w "internal/strconv.uint64pow10" .u64 Lib.pow10Tab) :
  Calls Tryz.prog 84 #[.int .i64 n] w fun e w' => e = .returned (.string ⟨(Lib.itoa n).toArray⟩) ∧ ∃ k os, w' = grow (w.drewN k) os := Any.strconv_Itoa Tryz.laysM171 n h0 h1 w htab

end Go.Proofs

namespace Go.Proofs
open Go.Shelf
def Tryz.laysC172_ren : Go.Shelf.Ren := ⟨fun | 172 => 124 | 244 => 157 | 245 => 158 | 247 => 186 | 279 => 187 | 280 => 188 | 281 => 189 | 282 => 190 | 287 => 214 | 316 => 215 | 171 => 84 | 205 => 216 | 321 => 230 | 322 => 231 | 243 => 122 | 246 => 153 | 283 => 178 | 284 => 179 | 285 => 180 | 286 => 181 | 129 => 205 | 317 => 204 | 318 => 206 | 319 => 207 | 320 => 208 | 337 => 226 | 338 => 227 | n => n, fun | 9 => 9 | 3 => 3 | 75 => 158 | 76 => 159 | 4 => 4 | 5 => 5 | 167 => 220 | 37 => 153 | 0 => 0 | 85 => 221 | 2 => 2 | 168 => 223 | 53 => 212 | 175 => 241 | 46 => 239 | 210 => 245 | 127 => 189 | 145 => 266 | 143 => 264 | 21 => 21 | 171 => 211 | 173 => 215 | 212 => 236 | 51 => 237 | 20 => 20 | 213 => 238 | 232 => 273 | 233 => 274 | 80 => 161 | n => n, fun | 15 => 2 | 16 => 3 | 17 => 1 | 18 => 6 | 19 => 7 | n => n⟩
theorem Tryz.laysC172 : Go.Proofs.LaysC.n172 Tryz.prog Tryz.laysC172_ren := {
 mixed := by kernel_rfl
 f129 := Tryz.func205.trans (congrArg some (by kernel_rfl))
 f171 := Tryz.func84.trans (congrArg some (by kernel_rfl))
 f172 := Tryz.func124.trans (congrArg some (by kernel_rfl))
 f205 := Tryz.func216.trans (congrArg some (by kernel_rfl))
 f243 := Tryz.func122.trans (congrArg some (by kernel_rfl))
 f244 := Tryz.func157.trans (congrArg some (by kernel_rfl))
 f245 := Tryz.func158.trans (congrArg some (by kernel_rfl))
 f246 := Tryz.func153.trans (congrArg some (by kernel_rfl))
 f247 := Tryz.func186.trans (congrArg some (by kernel_rfl))
 f279 := Tryz.func187.trans (congrArg some (by kernel_rfl))
 f280 := Tryz.func188.trans (congrArg some (by kernel_rfl))
 f281 := Tryz.func189.trans (congrArg some (by kernel_rfl))
 f282 := Tryz.func190.trans (congrArg some (by kernel_rfl))
 f283 := Tryz.func178.trans (congrArg some (by kernel_rfl))
 f284 := Tryz.func179.trans (congrArg some (by kernel_rfl))
 f285 := Tryz.func180.trans (congrArg some (by kernel_rfl))
 f286 := Tryz.func181.trans (congrArg some (by kernel_rfl))
 f287 := Tryz.func214.trans (congrArg some (by kernel_rfl))
 f316 := Tryz.func215.trans (congrArg some (by kernel_rfl))
 f317 := Tryz.func204.trans (congrArg some (by kernel_rfl))
 f318 := Tryz.func206.trans (congrArg some (by kernel_rfl))
 f319 := Tryz.func207.trans (congrArg some (by kernel_rfl))
 f320 := Tryz.func208.trans (congrArg some (by kernel_rfl))
 f321 := Tryz.func230.trans (congrArg some (by kernel_rfl))
 f322 := Tryz.func231.trans (congrArg some (by kernel_rfl))
 f337 := Tryz.func226.trans (congrArg some (by kernel_rfl))
 f338 := Tryz.func227.trans (congrArg some (by kernel_rfl))
 t0 := Tryz.underlying0
 a0 := Tryz.isAgg0
 z0 := Tryz.sizeOf0
 v0 := Tryz.zeroValue0
 t2 := Tryz.underlying2
 a2 := Tryz.isAgg2
 z2 := Tryz.sizeOf2
 v2 := Tryz.zeroValue2
 t3 := Tryz.underlying3
 a3 := Tryz.isAgg3
 z3 := Tryz.sizeOf3
 v3 := Tryz.zeroValue3
 t4 := Tryz.underlying4
 a4 := Tryz.isAgg4
 z4 := Tryz.sizeOf4
 v4 := Tryz.zeroValue4
 t5 := Tryz.underlying5
 a5 := Tryz.isAgg5
 z5 := Tryz.sizeOf5
 v5 := Tryz.zeroValue5
 t9 := Tryz.underlying9
 a9 := Tryz.isAgg9
 z9 := Tryz.sizeOf9
 v9 := Tryz.zeroValue9
 t20 := Tryz.underlying20
 a20 := Tryz.isAgg20
 z20 := Tryz.sizeOf20
 v20 := Tryz.zeroValue20
 t21 := Tryz.underlying21
 a21 := Tryz.isAgg21
 z21 := Tryz.sizeOf21
 v21 := Tryz.zeroValue21
 t37 := Tryz.underlying153
 a37 := Tryz.isAgg153
 z37 := Tryz.sizeOf153
 v37 := Tryz.zeroValue153
 t46 := Tryz.underlying239
 a46 := Tryz.isAgg239
 z46 := Tryz.sizeOf239
 v46 := Tryz.zeroValue239
 t51 := Tryz.underlying237
 a51 := Tryz.isAgg237
 z51 := Tryz.sizeOf237
 v51 := Tryz.zeroValue237
 t53 := Tryz.underlying212
 a53 := Tryz.isAgg212
 z53 := Tryz.sizeOf212
 v53 := Tryz.zeroValue212
 t75 := Tryz.underlying158
 a75 := Tryz.isAgg158
 z75 := Tryz.sizeOf158
 v75 := Tryz.zeroValue158
 t76 := Tryz.underlying159
 a76 := Tryz.isAgg159
 z76 := Tryz.sizeOf159
 v76 := Tryz.zeroValue159
 t85 := Tryz.underlying221
 a85 := Tryz.isAgg221
 z85 := Tryz.sizeOf221
 v85 := Tryz.zeroValue221
 t127 := Tryz.underlying189
 a127 := Tryz.isAgg189
 z127 := Tryz.sizeOf189
 v127 := Tryz.zeroValue189
 t143 := Tryz.underlying264
 a143 := Tryz.isAgg264
 z143 := Tryz.sizeOf264
 v143 := Tryz.zeroValue264
 t145 := Tryz.underlying266
 a145 := Tryz.isAgg266
 z145 := Tryz.sizeOf266
 v145 := Tryz.zeroValue266
 t167 := Tryz.underlying220
 a167 := Tryz.isAgg220
 z167 := Tryz.sizeOf220
 v167 := Tryz.zeroValue220
 t168 := Tryz.underlying223
 a168 := Tryz.isAgg223
 z168 := Tryz.sizeOf223
 v168 := Tryz.zeroValue223
 t171 := Tryz.underlying211
 a171 := Tryz.isAgg211
 z171 := Tryz.sizeOf211
 v171 := Tryz.zeroValue211
 t173 := Tryz.underlying215
 a173 := Tryz.isAgg215
 z173 := Tryz.sizeOf215
 v173 := Tryz.zeroValue215
 t175 := Tryz.underlying241
 a175 := Tryz.isAgg241
 z175 := Tryz.sizeOf241
 v175 := Tryz.zeroValue241
 t210 := Tryz.underlying245
 a210 := Tryz.isAgg245
 z210 := Tryz.sizeOf245
 v210 := Tryz.zeroValue245
 t212 := Tryz.underlying236
 a212 := Tryz.isAgg236
 z212 := Tryz.sizeOf236
 v212 := Tryz.zeroValue236
 t213 := Tryz.underlying238
 a213 := Tryz.isAgg238
 z213 := Tryz.sizeOf238
 t232 := Tryz.underlying273
 a232 := Tryz.isAgg273
 z232 := Tryz.sizeOf273
 v232 := Tryz.zeroValue273
 t233 := Tryz.underlying274
 a233 := Tryz.isAgg274
 z233 := Tryz.sizeOf274
 v233 := Tryz.zeroValue274
 g15 := by kernel_rfl
 g16 := by kernel_rfl
 g17 := by kernel_rfl
 g18 := by kernel_rfl
 g19 := by kernel_rfl
 t80 := Tryz.underlying161
 a80 := Tryz.isAgg161
 z80 := Tryz.sizeOf161
 v80 := Tryz.zeroValue161
 i0 := by kernel_rfl
 i2 := by kernel_rfl
 i3 := by kernel_rfl
 i4 := by kernel_rfl
 i5 := by kernel_rfl
 i9 := by kernel_rfl
 i20 := by kernel_rfl
 i21 := by kernel_rfl
 i37 := by kernel_rfl
 i46 := by kernel_rfl
 i51 := by kernel_rfl
 i53 := by kernel_rfl
 i75 := by kernel_rfl
 i76 := by kernel_rfl
 i80 := by kernel_rfl
 i85 := by kernel_rfl
 i127 := by kernel_rfl
 i143 := by kernel_rfl
 i145 := by kernel_rfl
 i167 := by kernel_rfl
 i168 := by kernel_rfl
 i171 := by kernel_rfl
 i173 := by kernel_rfl
 i175 := by kernel_rfl
 i210 := by kernel_rfl
 i212 := by kernel_rfl
 i232 := by kernel_rfl
 i233 := by kernel_rfl
 m15 := by kernel_rfl
 m16 := by kernel_rfl
 m17 := by kernel_rfl
 m18 := by kernel_rfl
 m19 := by kernel_rfl
 c0 := by kernel_rfl
 c2 := by kernel_rfl
 c3 := by kernel_rfl
 c4 := by kernel_rfl
 c5 := by kernel_rfl
 c9 := by kernel_rfl
 c20 := by kernel_rfl
 c21 := by kernel_rfl
 c37 := by kernel_rfl
 c46 := by kernel_rfl
 c51 := by kernel_rfl
 c53 := by kernel_rfl
 c75 := by kernel_rfl
 c76 := by kernel_rfl
 c80 := by kernel_rfl
 c85 := by kernel_rfl
 c127 := by kernel_rfl
 c143 := by kernel_rfl
 c145 := by kernel_rfl
 c167 := by kernel_rfl
 c168 := by kernel_rfl
 c171 := by kernel_rfl
 c173 := by kernel_rfl
 c175 := by kernel_rfl
 c210 := by kernel_rfl
 c212 := by kernel_rfl
 c213 := by kernel_rfl
 c232 := by kernel_rfl
 c233 := by kernel_rfl }
open Go.RowKit in
/-- strconv.Atoi, AT EVERY STRING THAT SPELLS AN int ('Lib.atoiAll .. = .ok v'; of whatever length: leading zeros count): v, AND NO ERROR. The world: as it was, or with the one new row that '[]byte(..)' lays. (LAID: no walk: one application.) -/
theorem Tryz.strconv_Atoi_ok (s : ByteArray) (hmax : s.size ≤ 9223372036854775806) (v : Int) (h : Lib.atoiAll s.data.toList = .ok v) (w : World) :
  Calls Tryz.prog 124 #[.string s] w fun e w' => e = .returned (.tuple #[.int .i64 v, .nilIface]) ∧ (w' = w ∨ ∃ t, w' = Lib.bytesWorld w 5 t) := Any.strconv_Atoi_ok Tryz.laysC172 s hmax v h w
open Go.RowKit in
theorem Tryz.strconv_Atoi_syntax_var (s : ByteArray) (hlim : s.size ≤ 281474976710656) (h : Lib.atoiAll s.data.toList = Lib.atoiAll []) (tp : TypeId) (p : Value) (w : World) (hvar : w.var? Tryz.prog "strconv.ErrSyntax" = some #[.iface tp p]) :
  Calls Tryz.prog 124 #[.string s] w fun e w' => ∃ N, e = .returned (.tuple #[.int .i64 0, .iface 223 (.pointer (some ⟨N, 0, none⟩))]) ∧ w.heap.size ≤ N ∧ w'.heap[N]? = some (.cells #[.string ⟨#[65, 116, 111, 105]⟩, .string s, .iface tp p] 245 (0, 0)) ∧ Below w.heap.size w w' := Any.strconv_Atoi_syntax_var Tryz.laysC172 s hlim h tp p w hvar
open Go.RowKit in
theorem Tryz.strconv_Atoi_range_var (s : ByteArray) (hlim : s.size ≤ 281474976710656) (h : Lib.atoiAll s.data.toList = .range) (tp : TypeId) (p : Value) (w : World) (hvar : w.var? Tryz.prog "strconv.ErrRange" = some #[.iface tp p]) :
  Calls Tryz.prog 124 #[.string s] w fun e w' => ∃ N, e = .returned (.tuple #[.int .i64 (Lib.atoiSat s.data.toList), .iface 223 (.pointer (some ⟨N, 0, none⟩))]) ∧ w.heap.size ≤ N ∧ w'.heap[N]? = some (.cells #[.string ⟨#[65, 116, 111, 105]⟩, .string s, .iface tp p] 245 (0, 0)) ∧ Below w.heap.size w w' := Any.strconv_Atoi_range_var Tryz.laysC172 s hlim h tp p w hvar
def Tryz.lays146_ren : Go.Shelf.Ren := ⟨fun | 146 => 85 | 221 => 123 | 268 => 154 | 138 => 155 | 143 => 156 | 195 => 182 | 197 => 183 | 218 => 184 | 219 => 185 | 260 => 209 | 217 => 210 | 225 => 211 | 224 => 212 | 267 => 213 | 266 => 228 | 314 => 229 | n => n, fun | 9 => 9 | 31 => 116 | 3 => 3 | 4 => 4 | 0 => 0 | 105 => 217 | 21 => 21 | 5 => 5 | 46 => 239 | 119 => 257 | 139 => 260 | 138 => 259 | 146 => 261 | 51 => 237 | n => n, fun | 1 => 0 | 3 => 4 | 4 => 5 | n => n⟩
theorem Tryz.lays146 : Go.Proofs.Lays.n146 Tryz.prog Tryz.lays146_ren := {
 mixed := by kernel_rfl
 f138 := Tryz.func155.trans (congrArg some (by kernel_rfl))
 f143 := Tryz.func156.trans (congrArg some (by kernel_rfl))
 f146 := Tryz.func85.trans (congrArg some (by kernel_rfl))
 f195 := Tryz.func182.trans (congrArg some (by kernel_rfl))
 f197 := Tryz.func183.trans (congrArg some (by kernel_rfl))
 f217 := Tryz.func210.trans (congrArg some (by kernel_rfl))
 f218 := Tryz.func184.trans (congrArg some (by kernel_rfl))
 f219 := Tryz.func185.trans (congrArg some (by kernel_rfl))
 f221 := Tryz.func123.trans (congrArg some (by kernel_rfl))
 f224 := Tryz.func212.trans (congrArg some (by kernel_rfl))
 f225 := Tryz.func211.trans (congrArg some (by kernel_rfl))
 f260 := Tryz.func209.trans (congrArg some (by kernel_rfl))
 f266 := Tryz.func228.trans (congrArg some (by kernel_rfl))
 f267 := Tryz.func213.trans (congrArg some (by kernel_rfl))
 f268 := Tryz.func154.trans (congrArg some (by kernel_rfl))
 f314 := Tryz.func229.trans (congrArg some (by kernel_rfl))
 t0 := Tryz.underlying0
 a0 := Tryz.isAgg0
 z0 := Tryz.sizeOf0
 v0 := Tryz.zeroValue0
 t3 := Tryz.underlying3
 a3 := Tryz.isAgg3
 z3 := Tryz.sizeOf3
 v3 := Tryz.zeroValue3
 t4 := Tryz.underlying4
 a4 := Tryz.isAgg4
 z4 := Tryz.sizeOf4
 v4 := Tryz.zeroValue4
 t5 := Tryz.underlying5
 a5 := Tryz.isAgg5
 z5 := Tryz.sizeOf5
 v5 := Tryz.zeroValue5
 t9 := Tryz.underlying9
 a9 := Tryz.isAgg9
 z9 := Tryz.sizeOf9
 v9 := Tryz.zeroValue9
 t21 := Tryz.underlying21
 a21 := Tryz.isAgg21
 z21 := Tryz.sizeOf21
 v21 := Tryz.zeroValue21
 t31 := Tryz.underlying116
 a31 := Tryz.isAgg116
 z31 := Tryz.sizeOf116
 v31 := Tryz.zeroValue116
 t46 := Tryz.underlying239
 a46 := Tryz.isAgg239
 z46 := Tryz.sizeOf239
 v46 := Tryz.zeroValue239
 t51 := Tryz.underlying237
 a51 := Tryz.isAgg237
 z51 := Tryz.sizeOf237
 v51 := Tryz.zeroValue237
 t105 := Tryz.underlying217
 a105 := Tryz.isAgg217
 z105 := Tryz.sizeOf217
 v105 := Tryz.zeroValue217
 t119 := Tryz.underlying257
 a119 := Tryz.isAgg257
 z119 := Tryz.sizeOf257
 t138 := Tryz.underlying259
 a138 := Tryz.isAgg259
 z138 := Tryz.sizeOf259
 v138 := Tryz.zeroValue259
 t139 := Tryz.underlying260
 a139 := Tryz.isAgg260
 z139 := Tryz.sizeOf260
 v139 := Tryz.zeroValue260
 t146 := Tryz.underlying261
 a146 := Tryz.isAgg261
 z146 := Tryz.sizeOf261
 v146 := Tryz.zeroValue261
 g1 := by kernel_rfl
 g3 := by kernel_rfl
 g4 := by kernel_rfl }
open Go.RowKit Go.Lib in
/-- strings.Split. (LAID: no walk: one application.) -/
theorem Tryz.strings_Split (s sep : ByteArray) (m : Int) (w : World) (hs : s.size < 4294967281) (hm : w.cell? ⟨0, 0, none⟩ = some (.int .i64 m)) (h1 : 1 ≤ sep.size) :
  Calls Tryz.prog 85 #[.string s, .string sep] w fun e w' =>
   e = .returned (.slice (some ⟨w.heap.size, 0, none⟩) (Lib.countB s sep + 1) (Lib.countB s sep + 1)) ∧ w' = w.alloc (.cells ((Lib.splitB sep 0 (Lib.countB s sep) s).map Value.string).toArray 9) := Any.strings_Split Tryz.lays146 (by kernel_rfl) s sep m w hs hm h1
def Tryz.laysM146_ren : Go.Shelf.Ren := ⟨fun | 146 => 85 | 221 => 123 | 268 => 154 | 138 => 155 | 143 => 156 | 195 => 182 | 197 => 183 | 218 => 184 | 219 => 185 | 260 => 209 | 217 => 210 | 225 => 211 | 224 => 212 | 267 => 213 | 266 => 228 | 314 => 229 | n => n, fun | 9 => 9 | 31 => 116 | 3 => 3 | 4 => 4 | 0 => 0 | 105 => 217 | 21 => 21 | 5 => 5 | 46 => 239 | 119 => 257 | 139 => 260 | 138 => 259 | 146 => 261 | 51 => 237 | n => n, fun | 1 => 0 | 3 => 4 | 4 => 5 | n => n⟩
theorem Tryz.laysM146 : Go.Proofs.LaysM.n146 Tryz.prog Tryz.laysM146_ren := {
 mixed := by kernel_rfl
 f138 := Tryz.func155.trans (congrArg some (by kernel_rfl))
 f143 := Tryz.func156.trans (congrArg some (by kernel_rfl))
 f146 := Tryz.func85.trans (congrArg some (by kernel_rfl))
 f195 := Tryz.func182.trans (congrArg some (by kernel_rfl))
 f197 := Tryz.func183.trans (congrArg some (by kernel_rfl))
 f217 := Tryz.func210.trans (congrArg some (by kernel_rfl))
 f218 := Tryz.func184.trans (congrArg some (by kernel_rfl))
 f219 := Tryz.func185.trans (congrArg some (by kernel_rfl))
 f221 := Tryz.func123.trans (congrArg some (by kernel_rfl))
 f224 := Tryz.func212.trans (congrArg some (by kernel_rfl))
 f225 := Tryz.func211.trans (congrArg some (by kernel_rfl))
 f260 := Tryz.func209.trans (congrArg some (by kernel_rfl))
 f266 := Tryz.func228.trans (congrArg some (by kernel_rfl))
 f267 := Tryz.func213.trans (congrArg some (by kernel_rfl))
 f268 := Tryz.func154.trans (congrArg some (by kernel_rfl))
 f314 := Tryz.func229.trans (congrArg some (by kernel_rfl))
 t0 := Tryz.underlying0
 a0 := Tryz.isAgg0
 z0 := Tryz.sizeOf0
 v0 := Tryz.zeroValue0
 t3 := Tryz.underlying3
 a3 := Tryz.isAgg3
 z3 := Tryz.sizeOf3
 v3 := Tryz.zeroValue3
 t4 := Tryz.underlying4
 a4 := Tryz.isAgg4
 z4 := Tryz.sizeOf4
 v4 := Tryz.zeroValue4
 t5 := Tryz.underlying5
 a5 := Tryz.isAgg5
 z5 := Tryz.sizeOf5
 v5 := Tryz.zeroValue5
 t9 := Tryz.underlying9
 a9 := Tryz.isAgg9
 z9 := Tryz.sizeOf9
 v9 := Tryz.zeroValue9
 t21 := Tryz.underlying21
 a21 := Tryz.isAgg21
 z21 := Tryz.sizeOf21
 v21 := Tryz.zeroValue21
 t31 := Tryz.underlying116
 a31 := Tryz.isAgg116
 z31 := Tryz.sizeOf116
 v31 := Tryz.zeroValue116
 t46 := Tryz.underlying239
 a46 := Tryz.isAgg239
 z46 := Tryz.sizeOf239
 v46 := Tryz.zeroValue239
 t51 := Tryz.underlying237
 a51 := Tryz.isAgg237
 z51 := Tryz.sizeOf237
 v51 := Tryz.zeroValue237
 t105 := Tryz.underlying217
 a105 := Tryz.isAgg217
 z105 := Tryz.sizeOf217
 v105 := Tryz.zeroValue217
 t119 := Tryz.underlying257
 a119 := Tryz.isAgg257
 z119 := Tryz.sizeOf257
 t138 := Tryz.underlying259
 a138 := Tryz.isAgg259
 z138 := Tryz.sizeOf259
 v138 := Tryz.zeroValue259
 t139 := Tryz.underlying260
 a139 := Tryz.isAgg260
 z139 := Tryz.sizeOf260
 v139 := Tryz.zeroValue260
 t146 := Tryz.underlying261
 a146 := Tryz.isAgg261
 z146 := Tryz.sizeOf261
 v146 := Tryz.zeroValue261
 g1 := by kernel_rfl
 g3 := by kernel_rfl
 g4 := by kernel_rfl
 i0 := by kernel_rfl
 i3 := by kernel_rfl
 i4 := by kernel_rfl
 i5 := by kernel_rfl
 i9 := by kernel_rfl
 i21 := by kernel_rfl
 i31 := by kernel_rfl
 i46 := by kernel_rfl
 i51 := by kernel_rfl
 i105 := by kernel_rfl
 i138 := by kernel_rfl
 i139 := by kernel_rfl
 i146 := by kernel_rfl
 m1 := by kernel_rfl
 s1_3 := fun w h => Go.Proofs.cell_of_shapedOpen_int (zero := #[.int .i64 0]) (t := 3) h (of_decide_eq_true (by kernel_rfl)) (by kernel_rfl) rfl (by kernel_rfl) (by kernel_rfl) Tryz.underlying3
 m3 := by kernel_rfl
 m4 := by kernel_rfl }

end Go.Proofs

namespace Go.Proofs.YtoebgfgihfjnnaaGreatDoor
open Go.RowKit
set_option maxRecDepth 100000

theorem gPow : Tryz.prog.globalNamed "internal/strconv.uint64pow10" = some 1 := by kernel_rfl
abbrev TabW (w : World) : Prop := Lib.TabIs Tryz.prog w "internal/strconv.uint64pow10" .u64 Lib.pow10Tab
theorem TabW.below {w w' : World} (h : TabW w) (hb : Below w.heap.size w w') : TabW w' := Joins.tab_stays gPow h hb (Nat.le_refl _)
theorem itoaOk_tab {w : World} (h : TabW w) (n : Int) (h0 : -9223372036854775808 ≤ n) (h1 : n ≤ 9223372036854775807) : ItoaOk w n := by
 intro w' hb
 refine (Tryz.strconv_Itoa n h0 h1 w' (h.below hb)).mono ?_
 rintro e w'' ⟨rfl, k, os, rfl⟩
 exact ⟨rfl, Lib.below_grow _ _ (Nat.le_refl _) _ _⟩
theorem gPowT : (Tryz.prog.globals[1]?).map (·.type) = some 236 := by kernel_rfl
/-- a row's condition lays the table. -/
theorem tabW_of {W : World} {l : List (String × DataW Unit)} (hL : laidMetH Tryz.prog l W) (he : (l.filter fun x => x.2.handleName?.isNone).filter (fun p => p.1 == "internal/strconv.uint64pow10") = [("internal/strconv.uint64pow10", Lib.tabData .u64 Lib.pow10Tab)]) : TabW W := by
 have h := (laidMetH_iff.1 hL).1.filter (fun p => p.1 == "internal/strconv.uint64pow10")
 rw [he] at h
 exact Lib.tabIs_of_head gPow gPowT Tryz.underlying236 Tryz.underlying212 kR kR h
end Go.Proofs.YtoebgfgihfjnnaaGreatDoor

namespace Go.Proofs.YtoebgfgihfjnnaaGreatDoor
open Go.RowKit
set_option maxHeartbeats 1000000
set_option maxRecDepth 100000

open Go.Maps in
/-- the map counts the numbers of the list. -/
structure CntD (D : DataW Unit) (l : List Int) : Prop where
 map : IsMap D
 key : ∀ kl, has D kl = true ↔ ∃ x ∈ l, kl = .int .i64 x
 cnt : ∀ x ∈ l, ∀ z, D.atKey (.int .i64 x) z = .lit (.int .i64 (l.count x))
end Go.Proofs.YtoebgfgihfjnnaaGreatDoor

namespace Go.Proofs.YtoebgfgihfjnnaaGreatDoor
open Go.RowKit Go.Maps
set_option maxRecDepth 100000

def CntM (w : World) (b n : Nat) (l : List Int) : Prop := ∃ D : DataW Unit, w.ownsMap Tryz.prog 3 (plainElem Tryz.prog 3) b n D ∧ CntD D l
theorem CntM.kept {w w' : World} {b n : Nat} {l : List Int} {row : Option Nat} (h : CntM w b n l) (hg : w.grownBy w' row) (hne : some b ≠ row) : CntM w' b n l := by
 obtain ⟨D, h1, h2⟩ := h; exact ⟨D, h1.kept hg hne, h2⟩
theorem CntM.lt {w : World} {b n : Nat} {l : List Int} (h : CntM w b n l) : b < w.heap.size := by obtain ⟨D, h1, _⟩ := h; exact h1.lt
section
variable {ops : Array Oper} {rest : List Oper} {a : Act} {Q : Exit → Act → World → Prop} {d : Option Tmp} {ty : TypeId} {p : String} {m x y : Operand} {af : Array Edge} {g : Option (Nat × Bool)} {b n B : Nat} {k : Int} {w0 w : World} {L : List Pc} {l : List Int}
end
section
variable {P : Program} {ops : Array Oper} {rest : List Oper} {a : Act} {α : Type} {c : α → Value} {sz bytes : Nat} {t e t2 e2 : TypeId} {z : Value} {ad : Option Addr} {cap n : Nat} {l : List α} {k : Int} {w : World}
 {d1 d2 d3 : Tmp} {ty1 ty2 ty3 : TypeId} {p1 p2 p3 : String} {s x : Operand} {af1 af2 af3 : Array Edge} {j : Nat} {g1 g2 g3 : Option (Nat × Bool)}
end
section
variable {P : Program} {ops : Array Oper} {a : Act} {ty : TypeId} {p : String} {af : Array Edge} {g : Option (Nat × Bool)} {d : Tmp} {C : World → Prop}
theorem yieldsK_cellC {e : TypeId} {s : Operand} {x : Addr} {v : Value} (hF : Flat P e) (hb : ∀ w, C w → w.cell? x = some v) (hg : Region.wanted (⟨some d, .load e s, ty, p, af, g⟩ : Oper) (yielded ops a.tmps) = true) (hs : a.eval s = .pointer (some x)) :
  YieldsK P ops C ⟨some d, .load e s, ty, p, af, g⟩ v a :=
 .inl ⟨hg, fun w' hw' => by simp [execOp, hs, run_loadAt_cell w' hF (hb w' hw'), Result.andThen]⟩
end
end Go.Proofs.YtoebgfgihfjnnaaGreatDoor

namespace Go.Proofs.YtoebgfgihfjnnaaGreatDoor
open Go.RowKit
set_option maxRecDepth 100000

/-- the pieces of a text between bytes, one piece having begun. -/
def splR (c : UInt8) : List UInt8 → List UInt8 → List (List UInt8)
 | cur, [] => [cur]
 | cur, b :: r => if b = c then cur :: splR c [] r else splR c (cur ++ [b]) r
def spl (c : UInt8) (l : List UInt8) : List (List UInt8) := splR c [] l
theorem splR_free (c : UInt8) : ∀ (l cur : List UInt8), c ∉ l → splR c cur l = [cur ++ l]
 | [], cur, _ => by simp [splR]
 | b :: r, cur, h => by
   rw [splR, if_neg (fun e => h (by simp [e])), splR_free c r _ (fun e => h (by simp [e]))]; simp
theorem splR_hit (c : UInt8) : ∀ (p cur r : List UInt8), c ∉ p → splR c cur (p ++ c :: r) = (cur ++ p) :: spl c r
 | [], cur, r, _ => by rw [List.nil_append, splR, if_pos rfl]; simp [spl]
 | b :: p, cur, r, h => by
   rw [List.cons_append, splR, if_neg (fun e => h (by simp [e])), splR_hit c p _ r (fun e => h (by simp [e]))]; simp
theorem spl_free {c : UInt8} {l : List UInt8} (h : c ∉ l) : spl c l = [l] := by rw [spl, splR_free c l [] h]; rfl
theorem spl_hit {c : UInt8} {p : List UInt8} (r : List UInt8) (h : c ∉ p) : spl c (p ++ c :: r) = p :: spl c r := by rw [spl, splR_hit c p [] r h]; rfl
theorem splR_len (c : UInt8) : ∀ (l cur : List UInt8), (splR c cur l).length ≤ l.length + 1
 | [], cur => by simp [splR]
 | b :: r, cur => by
   rw [splR]
   split
   · have := splR_len c r []; simp; omega
   · have := splR_len c r (cur ++ [b]); simp; omega
theorem cut_ex (c : UInt8) (l : List UInt8) : c ∉ l ∨ ∃ p r, l = p ++ c :: r ∧ c ∉ p := by
 by_cases h : c ∈ l
 ·obtain ⟨p, r, e, hp⟩ := List.eq_append_cons_of_mem h; exact .inr ⟨p, r, e, hp⟩
 ·exact .inl h
theorem index_free {c : UInt8} : ∀ {l : List UInt8}, c ∉ l → Lib.index l [c] = -1
 | [], _ => by simp [Lib.index]
 | b :: r, h => by
   have hb : ([c] : List UInt8).isPrefixOf (b :: r) = false := by
     simp [List.isPrefixOf]; intro e; exact h (by simp [e])
   unfold Lib.index
   rw [hb, index_free (fun e => h (by simp [e]))]; rfl
theorem index_hit {c : UInt8} (r : List UInt8) : ∀ {p : List UInt8}, c ∉ p → Lib.index (p ++ c :: r) [c] = p.length
 | [], _ => by simp [Lib.index, List.isPrefixOf]
 | b :: p, h => by
   have hb : ([c] : List UInt8).isPrefixOf (b :: (p ++ c :: r)) = false := by
     simp [List.isPrefixOf]; intro e; exact h (by simp [e])
   rw [List.cons_append]
   unfold Lib.index
   rw [hb, index_hit r (fun e => h (by simp [e]))]
   have : ((p.length : Int) == -1) = false := by simp
   simp [this]
theorem splitK_spl {c : UInt8} : ∀ (k : Nat) (l : List UInt8), Lib.count l [c] ≤ k → Lib.splitK [c] 0 k l = spl c l
 | 0, l, h => by
   rcases cut_ex c l with hf | ⟨p, r, rfl, hp⟩
   · rw [spl_free hf]; rfl
   · have := Lib.count_hit (by simp) (index_hit r hp); omega
 | k + 1, l, h => by
   unfold Lib.splitK
   rcases cut_ex c l with hf | ⟨p, r, rfl, hp⟩
   · rw [index_free hf, if_pos (by rfl), spl_free hf]
   · have hc := Lib.count_hit (by simp) (index_hit r hp)
     rw [index_hit r hp, if_neg (by simp), spl_hit r hp]
     have e1 : (p ++ c :: r).drop (p.length + [c].length) = r := by simp
     have e2 : (p ++ c :: r).take (p.length + 0) = p := by simp
     rw [e1] at hc
     rw [Int.toNat_natCast, e1, e2, splitK_spl k r (by omega)]
theorem splitB_spl (c : UInt8) (l : List UInt8) : Lib.splitB ⟨#[c]⟩ 0 (Lib.countB (bT l) ⟨#[c]⟩) (bT l) = (spl c l).map bT := by
 have h := Lib.splitB_data ⟨#[c]⟩ 0 (Lib.countB (bT l) ⟨#[c]⟩) (bT l)
 have e : Lib.splitK [c] 0 (Lib.countB (bT l) ⟨#[c]⟩) l = spl c l := splitK_spl _ l (Nat.le_refl _)
 have h2 : (Lib.splitB ⟨#[c]⟩ 0 (Lib.countB (bT l) ⟨#[c]⟩) (bT l)).map (·.data.toList) = spl c l := h.trans e
 rw [← h2, List.map_map]
 symm
 exact (List.map_congr_left fun x _ => rfl).trans (List.map_id _)
def isDig (b : UInt8) : Prop := 48 ≤ b.toNat ∧ b.toNat ≤ 57
instance (b : UInt8) : Decidable (isDig b) := inferInstanceAs (Decidable (_ ∧ _))
/-- a decimal number without zeros ahead. -/
def canon (l : List UInt8) : Prop := l ≠ [] ∧ (1 < l.length → l.head? ≠ some 48) ∧ ∀ b ∈ l, isDig b
instance (l : List UInt8) : Decidable (canon l) := inferInstanceAs (Decidable (_ ∧ _ ∧ _))
theorem u8_eq {b : UInt8} {n : Nat} (h : b.toNat = n) : b = UInt8.ofNat n := by rw [← h]; simp
theorem snoc_ind {α : Type} {P : List α → Prop} (h0 : P []) (h1 : ∀ m d, P m → P (m ++ [d])) (l : List α) : P l := by
 have h : ∀ r : List α, P r.reverse := by
  intro r
  induction r with
  | nil => exact h0
  | cons a r ih => rw [List.reverse_cons]; exact h1 _ _ ih
 simpa using h l.reverse
theorem head_app {m : List UInt8} (r : List UInt8) (h : m ≠ []) : (m ++ r).head? = m.head? := by
 cases m with
 | nil => exact absurd rfl h
 | cons a t => rfl
theorem valL_first : ∀ {l : List UInt8}, l ≠ [] → l.head? ≠ some 48 → (∀ b ∈ l, isDig b) → 0 < valL l := by
 intro l
 refine snoc_ind (P := fun l => l ≠ [] → l.head? ≠ some 48 → (∀ b ∈ l, isDig b) → 0 < valL l) ?_ ?_ l
 ·intro h1; exact absurd rfl h1
 ·intro m d ih h1 h2 h3
  rw [valL_snoc]
  by_cases hm : m = []
  ·subst hm
   have hd := h3 d (by simp)
   unfold isDig at hd
   have : d ≠ 48 := fun e => h2 (by simp [e])
   have : d.toNat ≠ 48 := fun e => this (by have := u8_eq e; simpa using this)
   omega
  ·have := ih hm (by rw [head_app _ hm] at h2; exact h2) (fun b hb => h3 b (by simp [hb]))
   omega
theorem canon_dec : ∀ {l : List UInt8}, canon l → Lib.decDigits (valL l) = l := by
 intro l
 refine snoc_ind (P := fun l => canon l → Lib.decDigits (valL l) = l) ?_ ?_ l
 ·intro h; exact absurd rfl h.1
 ·rintro m d ih ⟨h1, h2, h3⟩
  have hd := h3 d (by simp)
  unfold isDig at hd
  have ed : UInt8.ofNat (48 + (d.toNat - 48)) = d := by rw [show 48 + (d.toNat - 48) = d.toNat by omega]; simp
  rw [valL_snoc]
  by_cases hm : m = []
  ·subst hm
   rw [show valL ([] : List UInt8) = 0 from rfl, decD_small (by omega), Nat.mul_zero, Nat.zero_add, ed]; rfl
  ·have hl : 0 < m.length := List.length_pos_iff.2 hm
   have hh : m.head? ≠ some 48 := by
    have := h2 (by simp; omega)
    rw [head_app _ hm] at this; exact this
   have hv := valL_first hm hh (fun b hb => h3 b (by simp [hb]))
   rw [decD_big (by omega), show (10 * valL m + (d.toNat - 48)) / 10 = valL m by omega, show (10 * valL m + (d.toNat - 48)) % 10 = d.toNat - 48 by omega, ed, ih ⟨hm, fun _ => hh, fun b hb => h3 b (by simp [hb])⟩]
theorem dec_canon (u : Nat) : canon (Lib.decDigits u) := by
 refine ⟨fun e => by have := decD_pos u; rw [e] at this; simp at this, fun h e => ?_, fun b hb => decD_dig u b hb⟩
 by_cases hu : 0 < u
 ·obtain ⟨b, r, e2, h1, h2⟩ := decD_first hu
  rw [e2] at e
  simp at e
  rw [e] at h1
  exact absurd h1 (by decide)
 ·have : u = 0 := by omega
  subst this
  rw [decD_small (by decide)] at h
  simp at h
/-- a number of at most 9 digits. -/
def intL (l : List UInt8) : Option Nat := if canon l ∧ l.length ≤ 9 then some (valL l) else none
theorem valL_lt9 {l : List UInt8} (h : ∀ b ∈ l, isDig b) (h9 : l.length ≤ 9) : valL l < 1000000000 := by
 have := valL_lt l (fun b hb => h b hb) l.length (Nat.le_refl _)
 rw [List.take_length] at this
 have h2 := Nat.pow_le_pow_right (n := 10) (by decide) h9
 have : (10 : Nat) ^ 9 = 1000000000 := by decide
 omega
theorem parseU {l : List UInt8} : ∀ (acc : Nat), (∀ b ∈ l, isDig b) → (acc + 1) * 10 ^ l.length ≤ 1000000000000000000 → Lib.parseUint10 acc l = .ok (l.foldl (fun n b => 10 * n + (b.toNat - 48)) acc) := by
 induction l with
 | nil => intro acc _ _; rfl
 | cons b r ih =>
  intro acc h hb
  have hd := h b (by simp)
  unfold isDig at hd
  rw [List.length_cons, Nat.pow_succ] at hb
  have hp : 0 < 10 ^ r.length := Nat.pos_of_ne_zero (by simp)
  have h1 : (acc + 1) * 10 ≤ (acc + 1) * (10 ^ r.length * 10) := Nat.mul_le_mul_left _ (by omega)
  rw [Lib.parseUint10, if_pos hd, if_neg (by omega), if_neg (by omega), List.foldl_cons, show 10 * acc + (b.toNat - 48) = acc * 10 + (b.toNat - 48) by omega]
  refine ih _ (fun b hb => h b (by simp [hb])) ?_
  have h2 : (acc * 10 + (b.toNat - 48) + 1) * 10 ^ r.length ≤ ((acc + 1) * 10) * 10 ^ r.length := Nat.mul_le_mul_right _ (by omega)
  have h3 : ((acc + 1) * 10) * 10 ^ r.length = (acc + 1) * (10 ^ r.length * 10) := by ac_rfl
  omega
theorem atoi_canon {l : List UInt8} (h : canon l) (h9 : l.length ≤ 9) : Lib.atoiAll l = .ok (valL l : Int) := by
 obtain ⟨h1, _, h3⟩ := h
 have hp := Nat.pow_le_pow_right (n := 10) (by decide) h9
 have h10 : (10 : Nat) ^ 9 = 1000000000 := by decide
 have hu := parseU (l := l) 0 h3 (by omega)
 have hv := valL_lt9 h3 h9
 cases l with
 | nil => exact absurd rfl h1
 | cons c r =>
  have hc := h3 c (by simp)
  unfold isDig at hc
  unfold Lib.atoiAll
  simp only
  rw [if_neg (by omega), Lib.parseMag, if_neg (by simp), hu]
  have ev : List.foldl (fun n b => 10 * n + (b.toNat - 48)) 0 (c :: r) = valL (c :: r) := rfl
  simp only [ev]
  have hc2 : ¬ c.toNat = 45 := by omega
  simp only [hc2, not_false_eq_true, true_and, false_and, if_false]
  rw [if_neg (by omega)]
/-- what the program's test of a number comes to. -/
theorem intL_some {l : List UInt8} {v : Int} (h : Lib.atoiAll l = .ok v) (h9 : l.length ≤ 9) (hi : itoaB v = bT l) (h0 : 0 ≤ v) : intL l = some v.toNat := by
 obtain ⟨u, rfl⟩ : ∃ u : Nat, v = u := ⟨v.toNat, by omega⟩
 rw [itoaB_bT] at hi
 have e : Lib.decDigits u = l := by
  have := congrArg (fun s : ByteArray => s.data.toList) hi
  simpa [bT] using this
 have hc := dec_canon u
 rw [e] at hc
 rw [intL, if_pos ⟨hc, h9⟩, ← e, valL_dec]; rfl
theorem intL_canon {l : List UInt8} {n : Nat} (h : intL l = some n) : canon l ∧ l.length ≤ 9 ∧ n = valL l ∧ itoaB (n : Int) = bT l ∧ Lib.atoiAll l = .ok (n : Int) ∧ n < 1000000000 := by
 unfold intL at h
 split at h
 ·rename_i hc
  cases h
  exact ⟨hc.1, hc.2, rfl, by rw [itoaB_bT, canon_dec hc.1], atoi_canon hc.1 hc.2, valL_lt9 hc.1.2.2 hc.2⟩
 ·cases h

def both (a b : Option Nat) : Option (Int × Int) := match a, b with | some x, some y => some (x, y) | _, _ => none
end Go.Proofs.YtoebgfgihfjnnaaGreatDoor

namespace Go.Proofs.YtoebgfgihfjnnaaGreatDoor
open Go.RowKit
set_option maxHeartbeats 4000000
set_option maxRecDepth 100000

/-- what the library reads of the world: a table, a number, two errors. -/
structure LibW (w : World) : Prop where
 tab : TabW w
 max : ∃ m, w.cell? ⟨0, 0, none⟩ = some (.int .i64 m)
 syn : ∃ tp p, w.var? Tryz.prog "strconv.ErrSyntax" = some #[.iface tp p]
 rng : ∃ tp p, w.var? Tryz.prog "strconv.ErrRange" = some #[.iface tp p]
theorem gSyn : Tryz.prog.globalNamed "strconv.ErrSyntax" = some 2 := by kernel_rfl
theorem gRng : Tryz.prog.globalNamed "strconv.ErrRange" = some 3 := by kernel_rfl
theorem LibW.below {w w' : World} (h : LibW w) (hb : Below w.heap.size w w') : LibW w' := by
 refine ⟨h.tab.below hb, ?_, ?_, ?_⟩
 ·obtain ⟨m, hm⟩ := h.max
  exact ⟨m, (hb.cell (World.block_lt_of_cell? w _ hm)).trans hm⟩
 ·obtain ⟨tp, p, hp⟩ := h.syn
  exact ⟨tp, p, Joins.var_stays gSyn hp hb (Nat.le_refl _)⟩
 ·obtain ⟨tp, p, hp⟩ := h.rng
  exact ⟨tp, p, Joins.var_stays gRng hp hb (Nat.le_refl _)⟩

theorem atoi_ok (l : List UInt8) (v : Int) (w : World) (hz : l.length ≤ 1048576) (h : Lib.atoiAll l = .ok v) :
  Calls Tryz.prog 124 #[.string (bT l)] w fun e w' => e = .returned (.tuple #[.int .i64 v, .nilIface]) ∧ Below w.heap.size w w' := by
 refine (Tryz.strconv_Atoi_ok (bT l) (by rw [bT_size]; omega) v h w).mono ?_
 rintro e w' ⟨rfl, hw⟩
 refine ⟨rfl, ?_⟩
 rcases hw with rfl | ⟨t, rfl⟩
 ·exact Below.refl _ _
 ·exact Lib.bytesWorld_below _ _ _
theorem atoi_no (l : List UInt8) (w : World) (hw : LibW w) (hz : l.length ≤ 1048576) (h : ∀ v, Lib.atoiAll l ≠ .ok v) :
  Calls Tryz.prog 124 #[.string (bT l)] w fun e w' => ∃ n t p, e = .returned (.tuple #[.int .i64 n, .iface t p]) ∧ Below w.heap.size w w' := by
 cases hA : Lib.atoiAll l
 ·rename_i v
  exact absurd hA (h v)
 ·obtain ⟨tp, p, hv⟩ := hw.syn
  refine (Tryz.strconv_Atoi_syntax_var (bT l) (by rw [bT_size]; omega) (hA.trans rfl) tp p w hv).mono ?_
  rintro e w' ⟨N, rfl, _, _, hb⟩
  exact ⟨_, _, _, rfl, hb⟩
 ·obtain ⟨tp, p, hv⟩ := hw.rng
  refine (Tryz.strconv_Atoi_range_var (bT l) (by rw [bT_size]; omega) hA tp p w hv).mono ?_
  rintro e w' ⟨N, rfl, _, _, hb⟩
  exact ⟨_, _, _, rfl, hb⟩
/-- a text's answer: the moves, the number of a word, the error. -/
def RetT (W : World) (R : List (Int × Int) × Int × Int) (r : Ending) (w' : World) : Prop :=
 ∃ a cap, r = .returned (.tuple #[.slice a R.1.length cap, .int .i64 R.2.1, .int .i64 R.2.2]) ∧ Pairs w' a cap R.1 ∧ Below W.heap.size W w'
theorem RetT.none {W w' : World} {R : List (Int × Int) × Int × Int} {r : Ending} {k e : Int} (hR : R = ([], k, e)) (h1 : r = .returned (.tuple #[.slice none 0 0, .int .i64 k, .int .i64 e])) (hb : Below W.heap.size W w') : RetT W R r w' := by
 subst hR; exact ⟨.none, 0, h1, pairs_nil _, hb⟩
theorem atD_mapT (L : List (List UInt8)) (k : Nat) (h : k < L.length) : atD ByteArray.empty (L.map bT) k = bT (atD [] L k) := by simp [atD, h]
theorem spl_sum : ∀ (c : UInt8) (l cur : List UInt8), ∀ x ∈ splR c cur l, x.length ≤ cur.length + l.length
 | c, [], cur, x, hx => by simp [splR] at hx; subst hx; simp
 | c, b :: r, cur, x, hx => by
   rw [splR] at hx
   split at hx
   · rcases List.mem_cons.1 hx with rfl | hx
     · simp
     · have := spl_sum c r [] x hx; simp at this ⊢; omega
   · have := spl_sum c r (cur ++ [b]) x hx; simp at this ⊢; omega
end Go.Proofs.YtoebgfgihfjnnaaGreatDoor

namespace Go.Proofs.YtoebgfgihfjnnaaGreatDoor
open Go.RowKit
set_option maxHeartbeats 4000000
set_option maxRecDepth 100000

end Go.Proofs.YtoebgfgihfjnnaaGreatDoor

namespace Go.Proofs.YtoebgfgihfjnnaaGreatDoor
open Go.RowKit
set_option maxHeartbeats 4000000
set_option maxRecDepth 100000

section
variable {P : Program} {ops : Array Oper} {rest : List Oper} {a : Act} {Qa : Act → Prop} {α : Type} {c : α → Value} {sz bytes : Nat} {t e t2 e2 : TypeId} {z : Value} {ad : Option Addr} {cap : Nat} {l : List α} {k : Int} {w : World}
 {d1 d2 d3 : Tmp} {ty1 ty2 ty3 : TypeId} {p1 p2 p3 : String} {s x : Operand} {af1 af2 af3 : Array Edge} {j : Nat}
end

end Go.Proofs.YtoebgfgihfjnnaaGreatDoor

namespace Go.Proofs.YtoebgfgihfjnnaaGreatDoor
open Go.RowKit
set_option maxRecDepth 100000

theorem gSynT : (Tryz.prog.globals[2]?).map (·.type) = some 158 := by kernel_rfl
theorem gRngT : (Tryz.prog.globals[3]?).map (·.type) = some 158 := by kernel_rfl
theorem starErr : "*" ++ "errors.errorString" = "*errors.errorString" := by decide
theorem rowErr (u : TypeId) (h : Tryz.prog.typeName? 3 u = some "*errors.errorString") : u = 264 :=
 typeName_ptr_named (nm := "errors.errorString") (by rw [starErr]; kernel_rfl) kR (by decide) u (by rw [starErr]; exact h)
theorem cErr : Tryz.prog.cellsOf 266 = 1 := by kernel_rfl
theorem cStr1' : Tryz.prog.cellsOf 9 = 1 := by kernel_rfl
theorem libW_of {W : World} {l : List (String × DataW Unit)} {t1 t2 : List UInt8} (hL : laidMetH Tryz.prog l W) (hsh : W.ShapedOpen Tryz.prog)
  (h1 : (l.filter fun x => x.2.handleName?.isNone).filter (fun p => p.1 == "internal/strconv.uint64pow10") = [("internal/strconv.uint64pow10", Lib.tabData .u64 Lib.pow10Tab)])
  (h2 : (l.filter fun x => x.2.handleName?.isNone).filter (fun p => p.1 == "strconv.ErrSyntax") = [("strconv.ErrSyntax", .iface "*errors.errorString" (.ptr (.agg [.lit (.string t1)])))])
  (h3 : (l.filter fun x => x.2.handleName?.isNone).filter (fun p => p.1 == "strconv.ErrRange") = [("strconv.ErrRange", .iface "*errors.errorString" (.ptr (.agg [.lit (.string t2)])))]) : LibW W := by
 refine ⟨tabW_of hL h1, Tryz.laysM146.s1_3 W hsh, ?_, ?_⟩
 ·have h := (laidMetH_iff.1 hL).1.filter (fun p => p.1 == "strconv.ErrSyntax")
  rw [h2] at h
  obtain ⟨a, s, hv, _⟩ := laid_sentinel h gSyn gSynT Tryz.underlying158 rowErr Tryz.underlying264 Tryz.underlying266 rfl rfl Tryz.underlying9 cErr cStr1'
  exact ⟨_, _, hv⟩
 ·have h := (laidMetH_iff.1 hL).1.filter (fun p => p.1 == "strconv.ErrRange")
  rw [h3] at h
  obtain ⟨a, s, hv, _⟩ := laid_sentinel h gRng gRngT Tryz.underlying158 rowErr Tryz.underlying264 Tryz.underlying266 rfl rfl Tryz.underlying9 cErr cStr1'
  exact ⟨_, _, hv⟩
section
open Go.ChangeMaps
variable {H : Type} {enc : TypeId × Value → H} {W : World}
end
end Go.Proofs.YtoebgfgihfjnnaaGreatDoor

namespace Go.Proofs.YtoebgfgihfjnnaaGreatDoor
open Go.RowKit
set_option maxHeartbeats 2000000
set_option maxRecDepth 100000

/-- the first index of a number, or -1. -/
def idxL (l : List Int) (x : Int) : Int := if l.findIdx (· == x) < l.length then l.findIdx (· == x) else -1
theorem idxL_found {l : List Int} {x : Int} {k : Nat} (hk : k < l.length) (h : atD 0 l k = x) (hno : ∀ j : Nat, j < k → atD 0 l j ≠ x) : idxL l x = k := by
 have hat : ∀ (j : Nat) (hj : j < l.length), atD 0 l j = l[j] := fun j hj => by simp [atD, hj]
 have e : l.findIdx (· == x) = k := by
  rw [List.findIdx_eq hk]
  refine ⟨by rw [← hat k hk, h]; simp, fun j hj => ?_⟩
  have := hno j hj
  rw [hat j (by omega)] at this
  simpa using this
 unfold idxL
 rw [e, if_pos hk]
theorem idxL_none {l : List Int} {x : Int} (hno : ∀ j : Nat, j < l.length → atD 0 l j ≠ x) : idxL l x = -1 := by
 have e : l.findIdx (· == x) = l.length := by
  rw [List.findIdx_eq_length]
  intro y hy
  obtain ⟨i, hi, rfl⟩ := List.mem_iff_getElem.1 hy
  have := hno i hi
  simp [atD, hi] at this
  simpa using this
 unfold idxL
 rw [e, if_neg (by omega)]
theorem idxL_contains (l : List Int) (x : Int) : decide (0 ≤ idxL l x) = l.contains x := by
 by_cases h : ∃ k : Nat, k < l.length ∧ atD 0 l k = x
 ·have hm : x ∈ l := by obtain ⟨k, hk, e⟩ := h; rw [← e]; simp [atD, hk]
  have hlt : l.findIdx (· == x) < l.length := List.findIdx_lt_length_of_exists ⟨x, hm, by simp⟩
  unfold idxL
  rw [if_pos hlt]
  simp [hm]
 ·have hno : ∀ j : Nat, j < l.length → atD 0 l j ≠ x := fun j hj e => h ⟨j, hj, e⟩
  have hm : x ∉ l := fun hm => by
   obtain ⟨i, hi, e⟩ := List.mem_iff_getElem.1 hm
   exact hno i hi (by simp [atD, hi, e])
  rw [idxL_none hno]
  simp [hm]

theorem sIndex_any (a : Option Addr) (cap : Nat) (l : List Int) (x : Int) (w : World) (h : Ints w a cap l) :
  Calls Tryz.prog 68 #[.slice a l.length cap, .int .i64 x] w fun r w' => r = .returned (.int .i64 (idxL l x)) ∧ w = w' := by
 have hcap := h.le
 have hm := h.max
 go_enter Tryz.func68, Tryz.ntmps68
 go_wp2
 go_loop [8, 5] (fun i _ => ∃ k : Nat, k ≤ l.length ∧ i = .int .i64 k ∧ ∀ j : Nat, j < k → atD 0 l j ≠ x) (fun i _ => l.length - (intOf i).toNat)
 case atStart => exact ⟨0, by omega, rfl, fun j hj => by omega⟩
 case round =>
  obtain ⟨k, hk, rfl, hno⟩ := hrel
  by_cases hlt : k < l.length
  ·have HN := hid hno; clear hno
   by_cases e : atD 0 l k = x
   ·have hd : (x == atD 0 l k) = true := by simp [e]
    have hf := idxL_found hlt e HN.out
    have HF := hid hf; clear hf e
    go_wp2_with (with_reducible refine wpList_idx _ 0 E_ints F_int cInt1 wU wU (h) oD oD (fun _ => wU) (fun _ => ?_))
    go_ret
    exact ⟨by rw [HF.out]; rfl, rfl⟩
   ·have hd : (x == atD 0 l k) = false := by simpa using fun h => e h.symm
    have HE := hid e; clear e
    go_wp2_with (with_reducible refine wpList_idx _ 0 E_ints F_int cInt1 wU wU (h) oD oD (fun _ => wU) (fun _ => ?_))
    go_round
    case rel =>
     refine ⟨k + 1, by omega, by go_num, fun j hj => ?_⟩
     by_cases e : j = k
     ·subst e; exact HE.out
     ·exact HN.out j (by omega)
    case measure => simp [intOf]; omega
  ·have hkl : k = l.length := by omega
   subst hkl
   have hf := idxL_none hno
   have HF := hid hf; clear hf hno
   go_wp2
   go_ret
   exact ⟨by rw [HF.out]; rfl, rfl⟩
theorem sContains_any (a : Option Addr) (cap : Nat) (l : List Int) (x : Int) (w : World) (h : Ints w a cap l) :
  Calls Tryz.prog 111 #[.slice a l.length cap, .int .i64 x] w fun r w' => r = .returned (.bool (l.contains x)) ∧ w = w' := by
 have hc := idxL_contains l x
 have HI := hid (fun w h => sIndex_any a cap l x w h)
 obtain ⟨i, hi⟩ : ∃ i, i = idxL l x := ⟨_, rfl⟩
 rw [← hi] at hc HI
 have HC := hid hc
 clear hc hi
 go_enter Tryz.func111, Tryz.ntmps111
 go_wp2_with (go_at_call 68; refine (HI.out _ h).mono ?_; rintro e w' ⟨rfl, rfl⟩)
 go_ret
 exact ⟨by rw [← HC.out]; rfl, rfl⟩

theorem pair_any (m : MacV) (ad : Option Addr) (cap : Nat) (p : Int) (w : World) (hg : m.gears ≤ 16) (h0 : 0 ≤ p) (h1 : p < m.gears) :
  Calls Tryz.prog 126 #[mV m ad cap, .int .i64 p] w fun r w' => r = .returned (.agg #[.int .i64 (4 * befM m p + 2), .int .i64 (4 * p)]) ∧ Below w.heap.size w w' := by
 obtain ⟨B, hB⟩ : ∃ B, B = befM m p := ⟨_, rfl⟩
 have hbp := bef_prog h0 h1
 have hmod : (p + m.gears - 1).tmod m.gears = B := by rw [Int.tmod_eq_emod_of_nonneg (by omega), hbp, hB]
 have hnz : ¬ m.gears = 0 := by omega
 have hB0 : 0 ≤ B ∧ B < m.gears := by rw [hB]; unfold befM; split <;> omega
 have hw : IntKind.i64.wrap B = B := IntWalk.i64_in _ (by omega)
 rw [← hB]
 clear hbp hB
 go_enter Tryz.func126, Tryz.ntmps126
 have hS := ((SL.nil w).box (.cells (mC m ad cap) 24)).box (.cells #[.int .i64 0, .int .i64 0] 84)
 simp only [World.size_alloc] at hS
 go_wp2_with ((with_reducible refine wpList_stoR (us := #[.int .i64 (4 * B + 2), .int .i64 (4 * p)]) 0 wU wU (hS) wU kR wU wU ?_); intro w1 hS1)
 exact bodyPost_ret (results_cell rfl rfl A_two kR (hS1.blk 0 rfl).1) rfl ⟨rfl, hS1.b⟩
theorem over_any (m : MacV) (ad : Option Addr) (cap : Nat) (s : Int) (w : World) (hR : Ints w ad cap m.sw) (hg : m.gears ≤ 16) (h0 : 0 ≤ s) (h1 : s < 4 * m.gears) :
  Calls Tryz.prog 93 #[mV m ad cap, .int .i64 s] w fun r w' => r = .returned (.int .i64 (overM m s)) ∧ Below w.heap.size w w' := by
 have CP := fun w => place_any m ad cap s w hg h0 h1
 have hov : overM m s = if goesM m s then 4 * befM m (placeM m s) + 2 + 4 * placeM m s - s else s := rfl
 have hgo : goesM m s = (decide (0 ≤ placeM m s) && sharedM m (placeM m s) && !m.sw.contains (placeM m s)) := rfl
 obtain ⟨O, hO⟩ : ∃ O, O = overM m s := ⟨_, rfl⟩
 obtain ⟨p, hp⟩ : ∃ p, p = placeM m s := ⟨_, rfl⟩
 obtain ⟨gs, hgs⟩ : ∃ g, g = goesM m s := ⟨_, rfl⟩
 rw [← hO, ← hgs, ← hp] at hov
 rw [← hgs, ← hp] at hgo
 rw [← hp] at CP
 rw [← hO]
 have CS := fun w => shared_any m ad cap p w
 have CC := fun w (h : Ints w ad cap m.sw) => sContains_any ad cap m.sw p w h
 have hcap := hR.le
 have hmx := hR.max
 have HP := hid CP; have HC := hid CC
 have hS := (SL.nil w).box (.cells (mC m ad cap) 24)
 clear CP CC hO hgs hp
 by_cases hp0 : 0 ≤ p
 ·have hpd : decide (p < 0) = false := decide_eq_false (by omega)
  have hpn : ¬ p < 0 := by omega
  cases hsh : sharedM m p
  ·have : gs = false := by rw [hgo, hsh]; simp
   rw [this] at hov
   simp only [Bool.false_eq_true, if_false] at hov
   rw [hsh] at CS
   have HS := hid CS
   subst hov
   clear CS hsh hgo this
   go_enter Tryz.func93, Tryz.ntmps93
   go_wp2_with fail
   refine (HP.out _).mono ?_
   rintro e w1 ⟨rfl, b1⟩
   have hS1 := hS.mono b1
   have q1 := (hS1.blk 0 rfl).1
   go_wp2_with (with_reducible refine wpList_ldS (n := 4) (us := mC m ad cap) A_mach kR wU wU (by assumption) wU wU ?_)
   refine (HS.out _).mono ?_
   rintro e w2 ⟨rfl, b2⟩
   have hS2 := hS1.mono b2
   go_wp2_with fail
   go_ret
   exact ⟨rfl, hS2.b⟩
  ·rw [hsh] at CS
   have hp1 := (shared_iff.1 hsh).2.1
   have HS := hid CS
   clear CS
   cases hc : m.sw.contains p
   ·have : gs = true := by rw [hgo, hsh, hc]; simp [hp0]
    rw [this] at hov
    simp only [if_true] at hov
    have CC := HC.out
    rw [hc] at CC
    have HC2 := hid CC
    have CQ := fun w => pair_any m ad cap p w hg hp0 hp1
    obtain ⟨B, hB⟩ : ∃ B, B = befM m p := ⟨_, rfl⟩
    have hB0 : 0 ≤ B ∧ B < m.gears := by rw [hB]; unfold befM; split <;> omega
    rw [← hB] at CQ hov
    have HQ := hid CQ
    have HOV := hid hov
    clear CC HC CQ hov hB hsh hgo this hc
    go_enter Tryz.func93, Tryz.ntmps93
    go_wp2_with fail
    refine (HP.out _).mono ?_
    rintro e w1 ⟨rfl, b1⟩
    have hS1 := hS.mono b1
    have q1 := (hS1.blk 0 rfl).1
    go_wp2_with (with_reducible refine wpList_ldS (n := 4) (us := mC m ad cap) A_mach kR wU wU (by assumption) wU wU ?_)
    refine (HS.out _).mono ?_
    rintro e w2 ⟨rfl, b2⟩
    have hS2 := hS1.mono b2
    have q2 := (hS2.blk 0 rfl).1
    go_wp2_with (with_reducible refine wpList_ldB F_sliceM wU wU q2 wU ?_)
    refine (HC2.out _ (hR.below hS2.b)).mono ?_
    rintro e w' ⟨rfl, rfl⟩
    go_wp2_with (with_reducible refine wpList_ldS (n := 4) (us := mC m ad cap) A_mach kR wU wU (by assumption) wU wU ?_)
    refine (HQ.out _).mono ?_
    rintro e w3 ⟨rfl, b3⟩
    have hS3 := (hS2.mono b3)
    go_wp2_with fail
    go_ret
    exact ⟨by rw [HOV.out]; rfl, bal hS3.b _⟩
   ·have : gs = false := by rw [hgo, hsh, hc]; simp
    rw [this] at hov
    simp only [Bool.false_eq_true, if_false] at hov
    have CC := HC.out
    rw [hc] at CC
    have HC2 := hid CC
    subst hov
    clear CC HC hsh hgo this hc
    go_enter Tryz.func93, Tryz.ntmps93
    go_wp2_with fail
    refine (HP.out _).mono ?_
    rintro e w1 ⟨rfl, b1⟩
    have hS1 := hS.mono b1
    have q1 := (hS1.blk 0 rfl).1
    go_wp2_with (with_reducible refine wpList_ldS (n := 4) (us := mC m ad cap) A_mach kR wU wU (by assumption) wU wU ?_)
    refine (HS.out _).mono ?_
    rintro e w2 ⟨rfl, b2⟩
    have hS2 := hS1.mono b2
    have q2 := (hS2.blk 0 rfl).1
    go_wp2_with (with_reducible refine wpList_ldB F_sliceM wU wU q2 wU ?_)
    refine (HC2.out _ (hR.below hS2.b)).mono ?_
    rintro e w' ⟨rfl, rfl⟩
    go_wp2_with fail
    go_ret
    exact ⟨rfl, hS2.b⟩
 ·have : gs = false := by rw [hgo]; simp [hp0]
  rw [this] at hov
  simp only [Bool.false_eq_true, if_false] at hov
  subst hov
  clear CS hgo this
  go_enter Tryz.func93, Tryz.ntmps93
  go_wp2_with fail
  refine (HP.out _).mono ?_
  rintro e w1 ⟨rfl, b1⟩
  have hS1 := hS.mono b1
  go_wp2_with fail
  go_ret
  exact ⟨rfl, hS1.b⟩
theorem mnext_any (m : MacV) (ad : Option Addr) (cap : Nat) (s : Int) (w : World) (hR : Ints w ad cap m.sw) (hg : m.gears ≤ 16) (h0 : 0 ≤ s) (h1 : s < 4 * m.gears) :
  Calls Tryz.prog 70 #[mV m ad cap, .int .i64 s] w fun r w' => r = .returned (.int .i64 (nextM m s)) ∧ Below w.heap.size w w' := by
 obtain ⟨g, hgq⟩ : ∃ g, g = s / 4 := ⟨_, rfl⟩
 obtain ⟨q, hq⟩ : ∃ q, q = s % 4 := ⟨_, rfl⟩
 have htd : s.tdiv 4 = g := by rw [hgq, Int.tdiv_eq_ediv_of_nonneg h0]
 have htm : s.tmod 4 = q := by rw [hq, Int.tmod_eq_emod_of_nonneg h0]
 have hg0 : 0 ≤ g ∧ g < m.gears := by omega
 have hq0 : 0 ≤ q ∧ q < 4 := by omega
 have hrr := rot_rng (m := m) h0 h1
 have hro : rotM m s = 4 * g + (q + (if fwdM m g then 1 else 3)) % 4 := by unfold rotM; rw [hgq, hq]
 have CF := fun w => forwards_any m ad cap g w hg0.1 (by omega)
 have CO := fun w h => over_any m ad cap (rotM m s) w h hg hrr.1 hrr.2.1
 have hnx : nextM m s = overM m (rotM m s) := rfl
 rw [← hnx] at CO
 obtain ⟨N, hN⟩ : ∃ N, N = nextM m s := ⟨_, rfl⟩
 rw [← hN] at CO ⊢
 have hS := (SL.nil w).box (.cells (mC m ad cap) 24)
 have hcap := hR.le
 have hmx := hR.max
 cases hf : fwdM m g
 ·rw [hf] at CF hro
  simp only [Bool.false_eq_true, if_false] at hro
  rw [hro] at CO
  have hmd : (q + 3).tmod 4 = (q + 3) % 4 := Int.tmod_eq_emod_of_nonneg (by omega)
  obtain ⟨z, hz⟩ : ∃ z, z = (q + 3) % 4 := ⟨_, rfl⟩
  have hz0 : 0 ≤ z ∧ z < 4 := by omega
  rw [← hz] at hmd CO
  have HF := hid CF; have HO := hid CO
  clear CF CO hro hnx hN hrr hgq hq hz hf
  go_enter Tryz.func70, Tryz.ntmps70
  go_wp2_with fail
  refine (HF.out _).mono ?_
  rintro e w1 ⟨rfl, b1⟩
  have hS1 := hS.mono b1
  have q1 := (hS1.blk 0 rfl).1
  go_wp2_with (with_reducible refine wpList_ldS (n := 4) (us := mC m ad cap) A_mach kR wU wU (by assumption) wU wU ?_)
  refine (HO.out _ (hR.below hS1.b)).mono ?_
  rintro e w2 ⟨rfl, b2⟩
  go_wp2_with fail
  go_ret
  exact ⟨rfl, bnext hS1.b b2⟩
 ·rw [hf] at CF hro
  simp only [if_true] at hro
  rw [hro] at CO
  have hmd : (q + 1).tmod 4 = (q + 1) % 4 := Int.tmod_eq_emod_of_nonneg (by omega)
  obtain ⟨z, hz⟩ : ∃ z, z = (q + 1) % 4 := ⟨_, rfl⟩
  have hz0 : 0 ≤ z ∧ z < 4 := by omega
  rw [← hz] at hmd CO
  have HF := hid CF; have HO := hid CO
  clear CF CO hro hnx hN hrr hgq hq hz hf
  go_enter Tryz.func70, Tryz.ntmps70
  go_wp2_with fail
  refine (HF.out _).mono ?_
  rintro e w1 ⟨rfl, b1⟩
  have hS1 := hS.mono b1
  have q1 := (hS1.blk 0 rfl).1
  go_wp2_with (with_reducible refine wpList_ldS (n := 4) (us := mC m ad cap) A_mach kR wU wU (by assumption) wU wU ?_)
  refine (HO.out _ (hR.below hS1.b)).mono ?_
  rintro e w2 ⟨rfl, b2⟩
  go_wp2_with fail
  go_ret
  exact ⟨rfl, bnext hS1.b b2⟩
end Go.Proofs.YtoebgfgihfjnnaaGreatDoor

namespace Go.Proofs.YtoebgfgihfjnnaaGreatDoor
open Go.RowKit
set_option maxHeartbeats 8000000
set_option maxRecDepth 100000

theorem permM_step (m : MacV) (k : Nat) (h : k < (permM m).length) : (permM m).take (k + 1) = (permM m).take k ++ [nextM m k] := by
 rw [List.take_succ_eq_append_getElem h]
 simp [permM]
theorem mperm_any (m : MacV) (ad : Option Addr) (cap : Nat) (w : World) (hR : Ints w ad cap m.sw) (hg0 : 1 ≤ m.gears) (hg : m.gears ≤ 16) :
  Calls Tryz.prog 95 #[mV m ad cap] w fun r w' => ∃ v, r = .returned v ∧ OwnI w.heap.size w' v (permM m) ∧ Below w.heap.size w w' := by
 have hcap := hR.le
 have hmx := hR.max
 have hl := permM_len m
 obtain ⟨n, hn⟩ : ∃ n : Nat, (4 * m.gears) = n := ⟨(4 * m.gears).toNat, by omega⟩
 rw [hn, Int.toNat_natCast] at hl
 have CS := fun w => slots_any m ad cap w (by omega) hg
 rw [hn] at CS
 have CN := fun (k : Nat) w (h : Ints w ad cap m.sw) (hk : k < n) => mnext_any m ad cap k w h hg (by omega) (by omega)
 have hS := (SL.nil w).box (.cells (mC m ad cap) 24)
 have HS := hid CS; have HN := hid CN; have HL := hid hl
 have hn64 : n ≤ 64 := by omega
 clear CS CN hl hn
 go_enter Tryz.func95, Tryz.ntmps95
 go_wp2_with fail
 refine (HS.out _).mono ?_
 rintro e w1 ⟨rfl, b1⟩
 have hS1 := (hS.mono b1).nilS (α := Int) (e := 3) cIntS
 go_wp2_with fail
 go_loopw [7, 4, 3] (fun i _ v wr => ∃ k : Nat, k ≤ n ∧ i = .int .i64 k ∧ SL w.heap.size w wr [pOwn cInt 1 3 v ((permM m).take k), pBlk w.heap.size (.cells (mC m ad cap) 24)]) (fun i _ _ _ => n - (intOf i).toNat)
 case atStart => exact ⟨0, by omega, rfl, hS1⟩
 case round =>
  clear hS1 hS
  obtain ⟨k, hk, rfl, hSr⟩ := hrel
  have q1 := (hSr.blk 1 rfl).1
  by_cases hlt : k < n
  ·have hs := permM_step m k (by rw [HL.out]; exact hlt)
   have hle : ((permM m).take k).length ≤ 64 := by rw [List.length_take, HL.out]; omega
   have HST := hid hs; clear hs
   go_wp2_with (with_reducible refine wpList_ldS (n := 4) (us := mC m ad cap) A_mach kR wU wU (by assumption) wU wU ?_)
   refine (HN.out k _ (hR.below hSr.b) hlt).mono ?_
   rintro e w4 ⟨rfl, b4⟩
   have hS4 := hSr.mono b4
   go_wp2_with ((with_reducible refine wpList_pushL (y := (nextM m k)) 0 E_ints wU wU (hS4) wU cIntO ⟨rfl, rfl⟩ (by first | with_unfolding_all rfl | simp) wU (by first | omega | (simp; omega)) (by first | omega | (simp; omega)) ?_); intro v5 w5 hS5)
   exact ⟨⟨k + 1, by omega, by go_num, by rw [HST.out]; exact hS5⟩, by simp [intOf]; omega⟩
  ·have hkn : k = n := by omega
   subst hkn
   have et : (permM m).take k = permM m := List.take_of_length_le (by rw [HL.out]; omega)
   rw [et] at hSr
   clear et
   go_wp2_with fail
   go_ret
   exact ⟨_, rfl, hSr.own 0 rfl, hSr.b⟩

section
variable {ops : Array Oper} {rest : List Oper} {a : Act} {Qa : Act → Prop} {w : World} {d : Option Tmp} {ty : TypeId} {p : String} {af : Array Edge} {g : Option (Nat × Bool)} {x y : Operand} {ts : Array TypeId} {b : Bool} {e : Int}
/-- 'when' in a quiet region. -/
theorem wpB_when (hx : a.eval x = .bool b) (hy : a.eval y = .int .i64 e) (hg : Region.wanted (⟨d, .call { callee := .value (.func 61), args := #[x, y], argTypes := ts }, ty, p, af, g⟩ : Oper) (yielded ops a.tmps) = true)
  (h : wpQuiet Tryz.prog ops (Below w.heap.size w) Qa rest (a.put d (.int .i64 (if b then e else 0)))) :
  wpQuiet Tryz.prog ops (Below w.heap.size w) Qa (⟨d, .call { callee := .value (.func 61), args := #[x, y], argTypes := ts }, ty, p, af, g⟩ :: rest) a := by
 refine wpB_call (f := 61) (args := #[.bool b, .int .i64 e]) (.int .i64 (if b then e else 0)) hg (fun w' => ?_) (fun w' _ => calls_below (mwhen_any b e w')) h
 have e1 : a.eval (.func 61) = .func (.func 61) #[] #[] := rfl
 generalize a.eval = ev at hx hy e1
 simp [execOp, resolve, invoke, hx, hy, e1, Deferred.ofValue, go_sem, Tryz.func61]
end

theorem firstE_head {a : Int} {l : List Int} (h : a ≠ 0) : firstE (a :: l) = a := by rw [firstE_cons]; simp [h]
theorem firstE_z (l : List Int) : firstE (0 :: l) = firstE l := by rw [firstE_cons]; simp
theorem swGo_step (m : MacV) (k : Nat) (h : k < m.sw.length) (o : Option Int) : swGo m o (m.sw.drop k) = if sharedM m (atD 0 m.sw k) = false then 10 else match o with
  | none => swGo m (some (atD 0 m.sw k)) (m.sw.drop (k + 1))
  | some b => if atD 0 m.sw k ≤ b then 11 else swGo m (some (atD 0 m.sw k)) (m.sw.drop (k + 1)) := by
 have e : m.sw.drop k = atD 0 m.sw k :: m.sw.drop (k + 1) := by rw [List.drop_eq_getElem_cons h]; simp [atD, h]
 rw [e]
 cases o <;> rfl
end Go.Proofs.YtoebgfgihfjnnaaGreatDoor

namespace Go.Proofs.YtoebgfgihfjnnaaGreatDoor
open Go.RowKit
set_option maxHeartbeats 8000000
set_option maxRecDepth 100000

theorem A_meet : Aggr Tryz.prog 137 := ⟨_, Tryz.underlying137, rfl⟩
abbrev meC (x : Nat × Int) : Array Value := #[.int .i64 x.1, .int .i64 x.2]
abbrev meO : Option (Nat × Int) → Array Value
 | some x => meC x
 | none => #[.int .i64 0, .int .i64 0]
/-- the answer of meet and first. -/
abbrev meV (r : Option (Nat × Int)) : Value := .tuple #[.agg (meO r), .bool r.isSome]
theorem results_cellSlot {P : Program} {w : World} {fn : Func} {tmps : Array Value} {t T k s : Nat} {us : Array Value} {T' : TypeId} {fr : Nat × Nat} {v : Value} (h : fn.results = #[.cell t T, .tmp s]) (ht : tmps.getD t undef = .pointer (some ⟨k, 0, none⟩)) (hs : tmps.getD s undef = v) (hu : Aggr P T) (hz : (P.info? T).map (·.size) = some us.size) (hb : w.heap[k]? = some (.cells us T' fr)) :
  (results fn tmps).run P w = .ok (.tuple #[.agg us, v]) w := by
 obtain ⟨d, hd, hdd⟩ := hu
 have := run_loadVar_row (P := P) w k T' T us fr d hb hd (by cases d <;> first | exact hdd | rfl | cases hdd) hz
 simp only [Array.getD_eq_getD_getElem?] at ht hs
 simp [results, h, ht, hs, asAddr, this]

theorem before_any (x y : Nat × Int) (w : World) :
  Calls Tryz.prog 145 #[.agg (meC x), .agg (meC y)] w fun r w' => r = .returned (.bool (befo x y)) ∧ Below w.heap.size w w' := by
 have hS := ((SL.nil w).box (.cells (meC x) 137)).box (.cells (meC y) 137)
 unfold befo
 by_cases h1 : (x.1 : Int) < y.1
 ·have d1 : decide ((x.1 : Int) < y.1) = true := decide_eq_true h1
  have d2 : decide (x.1 < y.1) = true := decide_eq_true (by omega)
  go_enter Tryz.func145, Tryz.ntmps145
  go_wp2
  go_ret
  exact ⟨by rw [d2]; rfl, hS.b⟩
 ·have d1 : decide ((x.1 : Int) < y.1) = false := decide_eq_false h1
  have d2 : decide (x.1 < y.1) = false := decide_eq_false (by omega)
  by_cases h3 : (x.1 : Int) = y.1
  ·have d3 : ((x.1 : Int) == y.1) = true := by simpa using h3
   have d4 : decide (x.1 = y.1) = true := decide_eq_true (by omega)
   rw [d2, d4]
   clear h3
   go_enter Tryz.func145, Tryz.ntmps145
   go_wp2
   go_ret
   exact ⟨by simp, hS.b⟩
  ·have d3 : ((x.1 : Int) == y.1) = false := by simpa using h3
   have d4 : decide (x.1 = y.1) = false := decide_eq_false (by omega)
   rw [d2, d4]
   clear h3
   go_enter Tryz.func145, Tryz.ntmps145
   go_wp2
   go_ret
   exact ⟨rfl, hS.b⟩

theorem meet_per2 {m : MacV} {a b : Int} (hg : m.gears ≤ 16) (a0 : 0 ≤ a) (a1 : a < 4 * m.gears) (b0 : 0 ≤ b) (b1 : b < 4 * m.gears) : ∃ L, 0 < L ∧ L ≤ 4096 ∧ itM m a L = a ∧ itM m b L = b := by
 obtain ⟨d, hd⟩ := ordM a0 a1
 obtain ⟨e, he⟩ := ordM b0 b1
 have h1 := hd.le
 have h2 := he.le
 rw [permM_len] at h1 h2
 refine ⟨e * d, Nat.mul_pos he.pos hd.pos, ?_, itP_mul hd.back e, ?_⟩
 ·have : e * d ≤ 64 * 64 := Nat.mul_le_mul (by omega) (by omega)
  omega
 ·rw [Nat.mul_comm]
  exact itP_mul he.back d

theorem meet_any (m : MacV) (ad : Option Addr) (cap : Nat) (a b : Int) (w : World) (hR : Ints w ad cap m.sw) (hg : m.gears ≤ 16) (a0 : 0 ≤ a) (a1 : a < 4 * m.gears) (b0 : 0 ≤ b) (b1 : b < 4 * m.gears) :
  Calls Tryz.prog 144 #[mV m ad cap, .int .i64 a, .int .i64 b] w fun r w' => r = .returned (meV (meetM m a b)) ∧ Below w.heap.size w w' := by
 have hcap := hR.le
 have hmx := hR.max
 obtain ⟨L, hL0, hL1, hLa, hLb⟩ := meet_per2 (m := m) hg a0 a1 b0 b1
 obtain ⟨r, hr⟩ : ∃ r, MeetR m a b r := ⟨_, meetM_spec m a b⟩
 have hrm : meetM m a b = r := (meetM_spec m a b).eq hr
 have CP := fun (s : Int) w (h0 : 0 ≤ s) (h1 : s < 4 * m.gears) => place_any m ad cap s w hg h0 h1
 have CN := fun (s : Int) w (h : Ints w ad cap m.sw) (h0 : 0 ≤ s) (h1 : s < 4 * m.gears) => mnext_any m ad cap s w h hg h0 h1
 have CS := fun (p : Int) w => shared_any m ad cap p w
 rw [hrm]
 have hS := ((SL.nil w).box (.cells (mC m ad cap) 24)).box (.cells #[.int .i64 0, .int .i64 0] 137)
 have HP := hid CP; have HN := hid CN; have HS := hid CS; have HM := hid hr; have HLA := hid hLa; have HLB := hid hLb
 clear CP CN CS hr hrm hLa hLb
 go_enter Tryz.func144, Tryz.ntmps144
 go_wp2_with fail
 go_loopw [8, 9, 10] (fun x y i wr => ∃ n : Nat, n < L ∧ x = .int .i64 (itM m a n) ∧ y = .int .i64 (itM m b n) ∧ i = .int .i64 n ∧ (∀ k, k < n → hitM m (itM m a k) (itM m b k) = false) ∧ SL w.heap.size w wr [pBlk (w.heap.size + 1) (.cells #[.int .i64 0, .int .i64 0] 137), pBlk w.heap.size (.cells (mC m ad cap) 24)]) (fun _ _ i _ => L - (intOf i).toNat)
 case atStart => exact ⟨0, hL0, rfl, rfl, rfl, fun k hk => by omega, by simpa using hS⟩
 case round =>
  clear hS
  obtain ⟨n, hn, rfl, rfl, rfl, hno, hSr⟩ := hrel
  have hX := itM_rng a0 a1 n
  have hY := itM_rng b0 b1 n
  have hX1 := itM_succ a0 a1 n
  have hY1 := itM_succ b0 b1 n
  have hRr := hR.below hSr.b
  obtain ⟨X, eX⟩ : ∃ X, X = itM m a n := ⟨_, rfl⟩
  obtain ⟨Y, eY⟩ : ∃ Y, Y = itM m b n := ⟨_, rfl⟩
  rw [← eX] at hX hX1 ⊢
  rw [← eY] at hY hY1 ⊢
  have CP := fun w => HP.out X w hX.1 hX.2
  have CQ := fun w => HP.out Y w hY.1 hY.2
  have CX := fun w h => HN.out X w h hX.1 hX.2
  have CY := fun w h => HN.out Y w h hY.1 hY.2
  have hhit : hitM m X Y = ((decide (0 ≤ placeM m X) && sharedM m (placeM m X)) && decide (placeM m X = placeM m Y)) := rfl
  obtain ⟨p, hp⟩ : ∃ p, p = placeM m X := ⟨_, rfl⟩
  obtain ⟨q, hq⟩ : ∃ q, q = placeM m Y := ⟨_, rfl⟩
  rw [← hp] at CP hhit
  rw [← hq] at CQ hhit
  have CS := HS.out p
  have q0 := (hSr.blk 1 rfl).1
  have HNO := hid hno; have EX := hid eX; have EY := hid eY; have X1 := hid hX1; have Y1 := hid hY1; have HPP := hid hp
  have HCX := hid CX; have HCY := hid CY
  clear hno eX eY hX1 hY1 CX CY hp hq
  -- what follows where there is no meeting
  by_cases hp0 : 0 ≤ p
  ·have hpd : decide (0 ≤ p) = true := decide_eq_true hp0
   cases hsh : sharedM m p
   ·rw [hsh] at CS
    rw [hsh, Bool.and_false, Bool.false_and] at hhit
    have HIT := hid hhit; have HC := hid CP; have HD := hid CS
    clear CP CQ CS hhit hsh
    go_wp2_with (with_reducible refine wpList_ldS (n := 4) (us := mC m ad cap) A_mach kR wU wU (by assumption) wU wU ?_)
    refine (HC.out _).mono ?_
    rintro e w1 ⟨rfl, b1⟩
    have hS1 := hSr.mono b1
    have q1 := (hS1.blk 1 rfl).1
    go_wp2_with (with_reducible refine wpList_ldS (n := 4) (us := mC m ad cap) A_mach kR wU wU (by assumption) wU wU ?_)
    refine (HD.out _).mono ?_
    rintro e w2 ⟨rfl, b2⟩
    have hS4 := hS1.mono b2
    clear q0 q1
    go_wp2_with fail
    have R4 := hR.below hS4.b
    have q4 := (hS4.blk 1 rfl).1
    refine wp_region_q kR kR ?_
    repeat (first | ((with_reducible refine wpB_loadS (n := 4) (us := mC m ad cap) A_mach kR wU wU (by assumption) wU wU ?_); (try simp only [Act.put, pA, pB, pC])) | ((refine wpB_call (.int .i64 (nextM m X)) wU (fun w' => ?_) (fun w' hw' => HCX.out w' (R4.below hw')) ?_); (focus (go_simp; done)); (try simp only [Act.put, pA, pB, pC])) | ((refine wpB_call (.int .i64 (nextM m Y)) wU (fun w' => ?_) (fun w' hw' => HCY.out w' (R4.below hw')) ?_); (focus (go_simp; done)); (try simp only [Act.put, pA, pB, pC])) |  ((with_reducible refine wpB_load (by first | exact F_int | exact F_u64s) wU wU (by assumption) wU ?_); (try simp only [Act.put, pA, pB, pC])) | ((refine wpQ_oneG ?_ wU (fun w' => ?_) ?_); rotate_left; (go_simp; rfl); (try simp only [Act.put, pA, pB, pC])))
    refine wpQuiet_nil ?_
    intro w5 hb5
    have hS5 := hS4.mono hb5
    rw [← X1.out, ← Y1.out]
    have hno2 : ∀ k, k < n + 1 → hitM m (itM m a k) (itM m b k) = false := by
     intro k hk
     by_cases e : k = n
     ·rw [e, ← EX.out, ← EY.out]; exact HIT.out
     ·exact HNO.out k (by omega)
    by_cases ea : itM m a (n + 1) = a
    ·by_cases eb : itM m b (n + 1) = b
     ·have hN : MeetR m a b none := meet_none (by omega) ea eb hno2
      have hrn := HM.out.eq hN
      subst hrn
      clear hno2 hN
      rw [ea, eb]
      have da : (a == a) = true := by simp
      have db : (b == b) = true := by simp
      clear ea eb
      go_wp2_with ((with_reducible refine wpList_stoR (us := #[.int .i64 0, .int .i64 0]) 0 wU wU (hS5) wU kR wU wU ?_); intro w6 hS6)
      exact bodyPost_ret (results_cellSlot rfl rfl rfl A_meet kR (hS6.blk 0 rfl).1) rfl ⟨rfl, hS6.b⟩
     ·have da : (itM m a (n + 1) == a) = true := by simpa using ea
      have db : (itM m b (n + 1) == b) = false := by simpa using eb
      have hnl : n + 1 ≠ L := fun e => eb (by rw [e]; exact HLB.out)
      have HNO2 := hid hno2
      clear ea eb hno2
      go_wp2_with fail
      exact ⟨⟨n + 1, by omega, rfl, rfl, by go_num, HNO2.out, hS5⟩, by simp [intOf]; omega⟩
    ·have da : (itM m a (n + 1) == a) = false := by simpa using ea
     have hnl : n + 1 ≠ L := fun e => ea (by rw [e]; exact HLA.out)
     have HNO2 := hid hno2
     clear ea hno2
     go_wp2_with fail
     exact ⟨⟨n + 1, by omega, rfl, rfl, by go_num, HNO2.out, hS5⟩, by simp [intOf]; omega⟩
   ·rw [hsh] at CS
    by_cases hpq : p = q
    ·rw [hsh, hpd, decide_eq_true hpq] at hhit
     have hM : MeetR m a b (some (n, p)) := ⟨by rw [← EX.out, ← EY.out]; exact hhit, by rw [← EX.out]; exact HPP.out, HNO.out⟩
     have hrn := HM.out.eq hM
     subst hrn
     have hpb : (p == q) = true := by simpa using hpq
     have HC := hid CP; have HD := hid CS; have HE := hid CQ
     clear CP CQ CS hhit hsh hpq hM
     go_wp2_with (with_reducible refine wpList_ldS (n := 4) (us := mC m ad cap) A_mach kR wU wU (by assumption) wU wU ?_)
     refine (HC.out _).mono ?_
     rintro e w1 ⟨rfl, b1⟩
     have hS1 := hSr.mono b1
     have q1 := (hS1.blk 1 rfl).1
     go_wp2_with (with_reducible refine wpList_ldS (n := 4) (us := mC m ad cap) A_mach kR wU wU (by assumption) wU wU ?_)
     refine (HD.out _).mono ?_
     rintro e w2 ⟨rfl, b2⟩
     have hS2 := hS1.mono b2
     have q2 := (hS2.blk 1 rfl).1
     clear q1
     go_wp2_with (with_reducible refine wpList_ldS (n := 4) (us := mC m ad cap) A_mach kR wU wU (by assumption) wU wU ?_)
     refine (HE.out _).mono ?_
     rintro e w3 ⟨rfl, b3⟩
     have hS3 := hS2.mono b3
     clear q0 q2
     go_wp2_with ((with_reducible refine wpList_stoR (us := #[.int .i64 n, .int .i64 p]) 0 wU wU (hS3) wU kR wU wU ?_); intro w6 hS6)
     exact bodyPost_ret (results_cellSlot rfl rfl rfl A_meet kR (hS6.blk 0 rfl).1) rfl ⟨rfl, hS6.b⟩
    ·rw [hsh, hpd, decide_eq_false hpq] at hhit
     have hpb : (p == q) = false := by simpa using hpq
     have HIT := hid hhit; have HC := hid CP; have HD := hid CS; have HE := hid CQ
     clear CP CQ CS hhit hsh hpq
     go_wp2_with (with_reducible refine wpList_ldS (n := 4) (us := mC m ad cap) A_mach kR wU wU (by assumption) wU wU ?_)
     refine (HC.out _).mono ?_
     rintro e w1 ⟨rfl, b1⟩
     have hS1 := hSr.mono b1
     have q1 := (hS1.blk 1 rfl).1
     go_wp2_with (with_reducible refine wpList_ldS (n := 4) (us := mC m ad cap) A_mach kR wU wU (by assumption) wU wU ?_)
     refine (HD.out _).mono ?_
     rintro e w2 ⟨rfl, b2⟩
     have hS2 := hS1.mono b2
     have q2 := (hS2.blk 1 rfl).1
     clear q1
     go_wp2_with (with_reducible refine wpList_ldS (n := 4) (us := mC m ad cap) A_mach kR wU wU (by assumption) wU wU ?_)
     refine (HE.out _).mono ?_
     rintro e w3 ⟨rfl, b3⟩
     have hS4 := hS2.mono b3
     clear q0 q2
     go_wp2_with fail
     have R4 := hR.below hS4.b
     have q4 := (hS4.blk 1 rfl).1
     refine wp_region_q kR kR ?_
     repeat (first | ((with_reducible refine wpB_loadS (n := 4) (us := mC m ad cap) A_mach kR wU wU (by assumption) wU wU ?_); (try simp only [Act.put, pA, pB, pC])) | ((refine wpB_call (.int .i64 (nextM m X)) wU (fun w' => ?_) (fun w' hw' => HCX.out w' (R4.below hw')) ?_); (focus (go_simp; done)); (try simp only [Act.put, pA, pB, pC])) | ((refine wpB_call (.int .i64 (nextM m Y)) wU (fun w' => ?_) (fun w' hw' => HCY.out w' (R4.below hw')) ?_); (focus (go_simp; done)); (try simp only [Act.put, pA, pB, pC])) |  ((with_reducible refine wpB_load (by first | exact F_int | exact F_u64s) wU wU (by assumption) wU ?_); (try simp only [Act.put, pA, pB, pC])) | ((refine wpQ_oneG ?_ wU (fun w' => ?_) ?_); rotate_left; (go_simp; rfl); (try simp only [Act.put, pA, pB, pC])))
     refine wpQuiet_nil ?_
     intro w5 hb5
     have hS5 := hS4.mono hb5
     rw [← X1.out, ← Y1.out]
     have hno2 : ∀ k, k < n + 1 → hitM m (itM m a k) (itM m b k) = false := by
      intro k hk
      by_cases e : k = n
      ·rw [e, ← EX.out, ← EY.out]; exact HIT.out
      ·exact HNO.out k (by omega)
     by_cases ea : itM m a (n + 1) = a
     ·by_cases eb : itM m b (n + 1) = b
      ·have hN : MeetR m a b none := meet_none (by omega) ea eb hno2
       have hrn := HM.out.eq hN
       subst hrn
       clear hno2 hN
       rw [ea, eb]
       have da : (a == a) = true := by simp
       have db : (b == b) = true := by simp
       clear ea eb
       go_wp2_with ((with_reducible refine wpList_stoR (us := #[.int .i64 0, .int .i64 0]) 0 wU wU (hS5) wU kR wU wU ?_); intro w6 hS6)
       exact bodyPost_ret (results_cellSlot rfl rfl rfl A_meet kR (hS6.blk 0 rfl).1) rfl ⟨rfl, hS6.b⟩
      ·have da : (itM m a (n + 1) == a) = true := by simpa using ea
       have db : (itM m b (n + 1) == b) = false := by simpa using eb
       have hnl : n + 1 ≠ L := fun e => eb (by rw [e]; exact HLB.out)
       have HNO2 := hid hno2
       clear ea eb hno2
       go_wp2_with fail
       exact ⟨⟨n + 1, by omega, rfl, rfl, by go_num, HNO2.out, hS5⟩, by simp [intOf]; omega⟩
     ·have da : (itM m a (n + 1) == a) = false := by simpa using ea
      have hnl : n + 1 ≠ L := fun e => ea (by rw [e]; exact HLA.out)
      have HNO2 := hid hno2
      clear ea hno2
      go_wp2_with fail
      exact ⟨⟨n + 1, by omega, rfl, rfl, by go_num, HNO2.out, hS5⟩, by simp [intOf]; omega⟩
  ·have hpd : decide (0 ≤ p) = false := decide_eq_false hp0
   rw [hpd, Bool.false_and, Bool.false_and] at hhit
   have HIT := hid hhit; have HC := hid CP
   clear CP CQ CS hhit
   go_wp2_with (with_reducible refine wpList_ldS (n := 4) (us := mC m ad cap) A_mach kR wU wU (by assumption) wU wU ?_)
   refine (HC.out _).mono ?_
   rintro e w1 ⟨rfl, b1⟩
   have hS4 := hSr.mono b1
   clear q0
   go_wp2_with fail
   have R4 := hR.below hS4.b
   have q4 := (hS4.blk 1 rfl).1
   refine wp_region_q kR kR ?_
   repeat (first | ((with_reducible refine wpB_loadS (n := 4) (us := mC m ad cap) A_mach kR wU wU (by assumption) wU wU ?_); (try simp only [Act.put, pA, pB, pC])) | ((refine wpB_call (.int .i64 (nextM m X)) wU (fun w' => ?_) (fun w' hw' => HCX.out w' (R4.below hw')) ?_); (focus (go_simp; done)); (try simp only [Act.put, pA, pB, pC])) | ((refine wpB_call (.int .i64 (nextM m Y)) wU (fun w' => ?_) (fun w' hw' => HCY.out w' (R4.below hw')) ?_); (focus (go_simp; done)); (try simp only [Act.put, pA, pB, pC])) |  ((with_reducible refine wpB_load (by first | exact F_int | exact F_u64s) wU wU (by assumption) wU ?_); (try simp only [Act.put, pA, pB, pC])) | ((refine wpQ_oneG ?_ wU (fun w' => ?_) ?_); rotate_left; (go_simp; rfl); (try simp only [Act.put, pA, pB, pC])))
   refine wpQuiet_nil ?_
   intro w5 hb5
   have hS5 := hS4.mono hb5
   rw [← X1.out, ← Y1.out]
   have hno2 : ∀ k, k < n + 1 → hitM m (itM m a k) (itM m b k) = false := by
    intro k hk
    by_cases e : k = n
    ·rw [e, ← EX.out, ← EY.out]; exact HIT.out
    ·exact HNO.out k (by omega)
   by_cases ea : itM m a (n + 1) = a
   ·by_cases eb : itM m b (n + 1) = b
    ·have hN : MeetR m a b none := meet_none (by omega) ea eb hno2
     have hrn := HM.out.eq hN
     subst hrn
     clear hno2 hN
     rw [ea, eb]
     have da : (a == a) = true := by simp
     have db : (b == b) = true := by simp
     clear ea eb
     go_wp2_with ((with_reducible refine wpList_stoR (us := #[.int .i64 0, .int .i64 0]) 0 wU wU (hS5) wU kR wU wU ?_); intro w6 hS6)
     exact bodyPost_ret (results_cellSlot rfl rfl rfl A_meet kR (hS6.blk 0 rfl).1) rfl ⟨rfl, hS6.b⟩
    ·have da : (itM m a (n + 1) == a) = true := by simpa using ea
     have db : (itM m b (n + 1) == b) = false := by simpa using eb
     have hnl : n + 1 ≠ L := fun e => eb (by rw [e]; exact HLB.out)
     have HNO2 := hid hno2
     clear ea eb hno2
     go_wp2_with fail
     exact ⟨⟨n + 1, by omega, rfl, rfl, by go_num, HNO2.out, hS5⟩, by simp [intOf]; omega⟩
   ·have da : (itM m a (n + 1) == a) = false := by simpa using ea
    have hnl : n + 1 ≠ L := fun e => ea (by rw [e]; exact HLA.out)
    have HNO2 := hid hno2
    clear ea hno2
    go_wp2_with fail
    exact ⟨⟨n + 1, by omega, rfl, rfl, by go_num, HNO2.out, hS5⟩, by simp [intOf]; omega⟩
end Go.Proofs.YtoebgfgihfjnnaaGreatDoor
