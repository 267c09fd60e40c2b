/- Contracts and plain facts that the claim uses (Lib1 PaB SmA SnA Ps1 RlA McA Rp1). Conditions: as each one states. -/
import Derived.Shelf.Strings.Trim
import Derived.Shelf.Strings.SlTrimAscii
import Derived.Shelf.Strings.Repeat
import Derived.Shelf.Strings.OnBuilder
import Derived.Shelf.Strconv.Itoa1
import Derived.Shelf.Strconv.Itoa3
import Derived.Shelf.LaysM
import Derived.Ground.Names2Prog
import Derived.Test.YtbchpkmcpplidaaGreatDoorProg
import Derived.Deep.RegionHeld3
import Derived.Deep.AppendLies
import Derived.Deep.RegionHeldLaw
import Derived.Deep.RegionLaw
import Derived.StillTail
import Derived.Laws.Tables
import Derived.Laws.CopyOwn
import Derived.IntWalk
import Derived.Test.YtbchpkmcpplidaaGreatDoorXb01
set_option linter.all false

namespace Go.Proofs
open Go.Shelf
def Tryz.lays156_ren : Go.Shelf.Ren := ⟨fun | 156 => 96 | 165 => 131 | 166 => 132 | 169 => 133 | 240 => 158 | 241 => 159 | 276 => 184 | 277 => 185 | n => n, fun | 31 => 124 | 9 => 9 | 3 => 3 | 4 => 4 | 0 => 0 | 20 => 20 | 72 => 167 | 76 => 171 | 70 => 164 | 37 => 165 | 75 => 170 | 127 => 193 | 164 => 213 | 5 => 5 | 80 => 173 | n => n, fun | n => n⟩
theorem Tryz.lays156 : Go.Proofs.Lays.n156 Tryz.prog Tryz.lays156_ren := {
 mixed := by kernel_rfl
 f156 := Tryz.func96.trans (congrArg some (by kernel_rfl))
 f165 := Tryz.func131.trans (congrArg some (by kernel_rfl))
 f166 := Tryz.func132.trans (congrArg some (by kernel_rfl))
 f169 := Tryz.func133.trans (congrArg some (by kernel_rfl))
 f240 := Tryz.func158.trans (congrArg some (by kernel_rfl))
 f241 := Tryz.func159.trans (congrArg some (by kernel_rfl))
 f276 := Tryz.func184.trans (congrArg some (by kernel_rfl))
 f277 := Tryz.func185.trans (congrArg some (by kernel_rfl))
 t0 := Tryz.underlying0
 a0 := Tryz.isAgg0
 z0 := Tryz.sizeOf0
 v0 := Tryz.zeroValue0
 t3 := Tryz.underlying3
 a3 := Tryz.isAgg3
 z3 := Tryz.sizeOf3
 v3 := Tryz.zeroValue3
 t4 := Tryz.underlying4
 a4 := Tryz.isAgg4
 z4 := Tryz.sizeOf4
 v4 := Tryz.zeroValue4
 t9 := Tryz.underlying9
 a9 := Tryz.isAgg9
 z9 := Tryz.sizeOf9
 v9 := Tryz.zeroValue9
 t20 := Tryz.underlying20
 a20 := Tryz.isAgg20
 z20 := Tryz.sizeOf20
 v20 := Tryz.zeroValue20
 t31 := Tryz.underlying124
 a31 := Tryz.isAgg124
 z31 := Tryz.sizeOf124
 v31 := Tryz.zeroValue124
 t37 := Tryz.underlying165
 a37 := Tryz.isAgg165
 z37 := Tryz.sizeOf165
 v37 := Tryz.zeroValue165
 t70 := Tryz.underlying164
 a70 := Tryz.isAgg164
 z70 := Tryz.sizeOf164
 v70 := Tryz.zeroValue164
 t72 := Tryz.underlying167
 a72 := Tryz.isAgg167
 z72 := Tryz.sizeOf167
 v72 := Tryz.zeroValue167
 t75 := Tryz.underlying170
 a75 := Tryz.isAgg170
 z75 := Tryz.sizeOf170
 v75 := Tryz.zeroValue170
 t76 := Tryz.underlying171
 a76 := Tryz.isAgg171
 z76 := Tryz.sizeOf171
 v76 := Tryz.zeroValue171
 t127 := Tryz.underlying193
 a127 := Tryz.isAgg193
 z127 := Tryz.sizeOf193
 v127 := Tryz.zeroValue193
 t164 := Tryz.underlying213
 a164 := Tryz.isAgg213
 z164 := Tryz.sizeOf213
 v164 := Tryz.zeroValue213 }
theorem Tryz.Builder_Extra_156 : Builder.Extra Tryz.prog Tryz.lays156_ren := {
 sizeBuilder := by kernel_rfl
 liesBuilder := by kernel_rfl
 t5 := Tryz.underlying5
 a5 := Tryz.isAgg5
 z5 := Tryz.sizeOf5
 v5 := Tryz.zeroValue5
 infoByte := by kernel_rfl
 cellsByte := by kernel_rfl
 sizeByte := by kernel_rfl
 neB5 := by decide }
open Go.RowKit in
/-- No element: the empty string; the world is as it was. (Whatever the slice's address and capacity: a nil slice too.) (LAID: no walk: one application.) -/
theorem Tryz.strings_Join_none (a : Option Addr) (c : Nat) (sep : ByteArray) (w : World) :
  Calls Tryz.prog 96 #[.slice a 0 c, .string sep] w fun e w' => e = .returned (.string ⟨#[]⟩) ∧ w' = w := Any.strings_Join_none Tryz.lays156 Tryz.Builder_Extra_156 a c sep w
open Go.RowKit in
/-- strings.Join: "Join concatenates the elements of its first argument to create a single string. The separator string sep is placed between elements in the resulting string.": HOWEVER MANY ELEMENTS. Below the heap's end the world is as it was. (LAID: no walk: one application.) -/
theorem Tryz.strings_Join (bk o c : Nat) (xs : List ByteArray) (sep : ByteArray) (w : World) (hcells : ∀ (j : Nat) x, xs[j]? = some x → w.cell? ⟨bk, o + j, none⟩ = some (.string x)) (hbk : bk < w.heap.size) (hN : xs.length ≤ 140737488355328) (hcap : xs.length ≤ c) (hlen : (Lib.join (xs.map (·.data.toList)) sep.data.toList).length ≤ 140737488355328) :
  Calls Tryz.prog 96 #[.slice (some ⟨bk, o, none⟩) xs.length c, .string sep] w fun e w' => e = .returned (.string ⟨(Lib.join (xs.map (·.data.toList)) sep.data.toList).toArray⟩) ∧ Below w.heap.size w w' := Any.strings_Join Tryz.lays156 Tryz.Builder_Extra_156 bk o c xs sep w hcells hbk hN hcap hlen
def Tryz.lays171_ren : Go.Shelf.Ren := ⟨fun | 171 => 98 | 243 => 134 | 246 => 160 | 283 => 186 | 284 => 187 | 285 => 188 | 286 => 189 | 129 => 209 | 317 => 208 | 318 => 210 | 319 => 211 | 320 => 212 | 337 => 233 | 338 => 234 | n => n, fun | 3 => 3 | 9 => 9 | 2 => 2 | 4 => 4 | 171 => 216 | 0 => 0 | 53 => 201 | 37 => 165 | 5 => 5 | 173 => 219 | 212 => 240 | 51 => 241 | 20 => 20 | 213 => 242 | 46 => 232 | 232 => 269 | 233 => 270 | n => n, fun | 17 => 1 | 18 => 8 | 19 => 9 | n => n⟩
theorem Tryz.lays171 : Go.Proofs.Lays.n171 Tryz.prog Tryz.lays171_ren := {
 mixed := by kernel_rfl
 f129 := Tryz.func209.trans (congrArg some (by kernel_rfl))
 f171 := Tryz.func98.trans (congrArg some (by kernel_rfl))
 f243 := Tryz.func134.trans (congrArg some (by kernel_rfl))
 f246 := Tryz.func160.trans (congrArg some (by kernel_rfl))
 f283 := Tryz.func186.trans (congrArg some (by kernel_rfl))
 f284 := Tryz.func187.trans (congrArg some (by kernel_rfl))
 f285 := Tryz.func188.trans (congrArg some (by kernel_rfl))
 f286 := Tryz.func189.trans (congrArg some (by kernel_rfl))
 f317 := Tryz.func208.trans (congrArg some (by kernel_rfl))
 f318 := Tryz.func210.trans (congrArg some (by kernel_rfl))
 f319 := Tryz.func211.trans (congrArg some (by kernel_rfl))
 f320 := Tryz.func212.trans (congrArg some (by kernel_rfl))
 f337 := Tryz.func233.trans (congrArg some (by kernel_rfl))
 f338 := Tryz.func234.trans (congrArg some (by kernel_rfl))
 t0 := Tryz.underlying0
 a0 := Tryz.isAgg0
 z0 := Tryz.sizeOf0
 v0 := Tryz.zeroValue0
 t2 := Tryz.underlying2
 a2 := Tryz.isAgg2
 z2 := Tryz.sizeOf2
 v2 := Tryz.zeroValue2
 t3 := Tryz.underlying3
 a3 := Tryz.isAgg3
 z3 := Tryz.sizeOf3
 v3 := Tryz.zeroValue3
 t4 := Tryz.underlying4
 a4 := Tryz.isAgg4
 z4 := Tryz.sizeOf4
 v4 := Tryz.zeroValue4
 t5 := Tryz.underlying5
 a5 := Tryz.isAgg5
 z5 := Tryz.sizeOf5
 v5 := Tryz.zeroValue5
 t9 := Tryz.underlying9
 a9 := Tryz.isAgg9
 z9 := Tryz.sizeOf9
 v9 := Tryz.zeroValue9
 t20 := Tryz.underlying20
 a20 := Tryz.isAgg20
 z20 := Tryz.sizeOf20
 v20 := Tryz.zeroValue20
 t37 := Tryz.underlying165
 a37 := Tryz.isAgg165
 z37 := Tryz.sizeOf165
 v37 := Tryz.zeroValue165
 t46 := Tryz.underlying232
 a46 := Tryz.isAgg232
 z46 := Tryz.sizeOf232
 v46 := Tryz.zeroValue232
 t51 := Tryz.underlying241
 a51 := Tryz.isAgg241
 z51 := Tryz.sizeOf241
 v51 := Tryz.zeroValue241
 t53 := Tryz.underlying201
 a53 := Tryz.isAgg201
 z53 := Tryz.sizeOf201
 v53 := Tryz.zeroValue201
 t171 := Tryz.underlying216
 a171 := Tryz.isAgg216
 z171 := Tryz.sizeOf216
 v171 := Tryz.zeroValue216
 t173 := Tryz.underlying219
 a173 := Tryz.isAgg219
 z173 := Tryz.sizeOf219
 v173 := Tryz.zeroValue219
 t212 := Tryz.underlying240
 a212 := Tryz.isAgg240
 z212 := Tryz.sizeOf240
 v212 := Tryz.zeroValue240
 t213 := Tryz.underlying242
 a213 := Tryz.isAgg242
 z213 := Tryz.sizeOf242
 t232 := Tryz.underlying269
 a232 := Tryz.isAgg269
 z232 := Tryz.sizeOf269
 v232 := Tryz.zeroValue269
 t233 := Tryz.underlying270
 a233 := Tryz.isAgg270
 z233 := Tryz.sizeOf270
 v233 := Tryz.zeroValue270
 g17 := by kernel_rfl
 g18 := by kernel_rfl
 g19 := by kernel_rfl }
open Go.RowKit Go.Sort Go.Lib in
/-- THE ROAD WITHOUT THE TABLE: 0 <= i < 100: NO PREMISE ON THE WORLD, AND THE WORLD IS AS IT WAS: a row that keeps its argument in that range need list no table ('laid = []'). (LAID: no walk: one application.) -/
theorem Tryz.strconv_Itoa_small (i : Nat) (hi : i < 100) (w : World) :
  Calls Tryz.prog 98 #[.int .i64 i] w fun e w' => e = .returned (.string ⟨(Lib.decDigits i).toArray⟩) ∧ w' = w := Any.strconv_Itoa_small Tryz.lays171 i hi w
def Tryz.lays212_ren : Go.Shelf.Ren := ⟨fun | 212 => 230 | 263 => 243 | 264 => 172 | n => n, fun | 46 => 232 | 51 => 241 | 146 => 261 | 53 => 201 | 148 => 202 | n => n, fun | n => n⟩
theorem Tryz.lays212 : Go.Proofs.Lays.n212 Tryz.prog Tryz.lays212_ren := {
 mixed := by kernel_rfl
 f212 := Tryz.func230.trans (congrArg some (by kernel_rfl))
 f263 := Tryz.func243.trans (congrArg some (by kernel_rfl))
 f264 := Tryz.func172.trans (congrArg some (by kernel_rfl))
 t46 := Tryz.underlying232
 a46 := Tryz.isAgg232
 z46 := Tryz.sizeOf232
 v46 := Tryz.zeroValue232
 t51 := Tryz.underlying241
 a51 := Tryz.isAgg241
 z51 := Tryz.sizeOf241
 v51 := Tryz.zeroValue241
 t53 := Tryz.underlying201
 a53 := Tryz.isAgg201
 z53 := Tryz.sizeOf201
 v53 := Tryz.zeroValue201
 t146 := Tryz.underlying261
 a146 := Tryz.isAgg261
 z146 := Tryz.sizeOf261
 v146 := Tryz.zeroValue261
 t148 := Tryz.underlying202
 a148 := Tryz.isAgg202
 z148 := Tryz.sizeOf202
 v148 := Tryz.zeroValue202 }
end Go.Proofs

namespace Go.Proofs.YtbchpkmcpplidaaGreatDoor
open Go.RowKit
set_option maxHeartbeats 400000
set_option maxRecDepth 100000

end Go.Proofs.YtbchpkmcpplidaaGreatDoor

namespace Go.Proofs.YtbchpkmcpplidaaGreatDoor
open Go.RowKit
set_option maxHeartbeats 1000000
set_option maxRecDepth 100000

def whenV (b : Bool) (e : Int) : Int := if b then e else 0
@[go_sem] theorem whenV_true (e : Int) : whenV true e = e := rfl
@[go_sem] theorem whenV_false (e : Int) : whenV false e = 0 := rfl
end Go.Proofs.YtbchpkmcpplidaaGreatDoor

namespace Go.Proofs.YtbchpkmcpplidaaGreatDoor
open Go.RowKit
set_option maxHeartbeats 1000000
set_option maxRecDepth 100000

end Go.Proofs.YtbchpkmcpplidaaGreatDoor

namespace Go.Proofs.YtbchpkmcpplidaaGreatDoor
open Go.RowKit
set_option maxHeartbeats 400000
set_option maxRecDepth 100000

end Go.Proofs.YtbchpkmcpplidaaGreatDoor

namespace Go.Proofs.YtbchpkmcpplidaaGreatDoor
open Go.RowKit
set_option maxHeartbeats 1000000
set_option maxRecDepth 100000

theorem drop_step {α : Type} [DecidableEq α] (d : α) (l m : List α) (h : l.length = m.length) (k : Nat) (hk : k < l.length) : decide (l.drop k = m.drop k) = (decide (atD d l k = atD d m k) && decide (l.drop (k + 1) = m.drop (k + 1))) := by
 have e2 : atD d l k = l[k] := by simp [atD, hk]
 have e3 : atD d m k = m[k] := by simp [atD, h ▸ hk]
 have hk2 : k < m.length := h ▸ hk
 rw [List.drop_eq_getElem_cons hk, List.drop_eq_getElem_cons hk2, e2, e3]
 rw [Bool.eq_iff_iff, Bool.and_eq_true, decide_eq_true_iff, decide_eq_true_iff, decide_eq_true_iff, List.cons.injEq]

theorem SameInts_any (a a2 : Option Addr) (cap cap2 : Nat) (l m : List Int) (w : World) (hS : Ints w a cap l) (hM : Ints w a2 cap2 m) (hl : l.length ≤ 1048576) :
  Calls Tryz.prog 16 #[.slice a l.length cap, .slice a2 m.length cap2] w fun r w' => r = .returned (.bool (decide (l = m))) ∧ Below w.heap.size w w' := by
 have hcap := hS.le
 have hm := hS.max
 have hcap2 := hM.le
 have hm2 := hM.max
 by_cases hlen : l.length = m.length
 ·have HL := hid hlen
  go_enter Tryz.func16, Tryz.ntmps16
  go_wp2_with fail
  go_loopw [5] (fun i wr => ∃ k : Nat, k ≤ l.length ∧ i = .int .i64 k ∧ decide (l.drop k = m.drop k) = decide (l = m) ∧ Below w.heap.size w wr) (fun i _ => l.length - (intOf i).toNat)
  case atStart => exact ⟨0, by omega, rfl, rfl, Below.refl _ _⟩
  case round =>
   obtain ⟨k, hk, rfl, hf, hbr⟩ := hrel
   by_cases hlt : k < l.length
   ·have hs := drop_step 0 l m HL.out k hlt
    rw [hf] at hs
    have HS := hid hs; clear hs hf
    have hx : (k : Int) < m.length := by rw [← HL.out]; omega
    have hS5 := hS.below hbr
    have hS6 := hM.below hbr
    clear hlen
    go_wp2_with fail
    refine wp_region_quiet_lit (by kernel_rfl) (by kernel_rfl) ?_
    repeat (first | ((with_reducible refine wpQD_idx 0 E_ints F_int cInt1 (by with_unfolding_all rfl) (by with_unfolding_all rfl) (hS5) (by first | omega | (simp; done)) (by first | omega | (simp; done)) (fun _ => by with_unfolding_all rfl) (fun _ => ?_)); (try simp only [Act.put, pA, pB, pC]); (try simp only [cInt])) | ((with_reducible refine wpQD_idx 0 E_ints F_int cInt1 (by with_unfolding_all rfl) (by with_unfolding_all rfl) (hS6) (by first | omega | (simp; done)) (by first | omega | (simp; done)) (fun _ => by with_unfolding_all rfl) (fun _ => ?_)); (try simp only [Act.put, pA, pB, pC]); (try simp only [cInt])) | quiet_step (fail))
    refine wpQuiet_nil ?_
    intro w5 hb5
    replace hb5 := below_drewN hb5
    have b5 := bnext hbr hb5
    go_wp2_with fail
    ·have hd : (atD 0 l k != atD 0 m k) = true := by assumption
     have h := HS.out
     rw [show decide (atD 0 l k = atD 0 m k) = false by simpa using hd, Bool.false_and] at h
     go_ret
     exact ⟨by rw [h]; rfl, b5⟩
    ·have hd : (atD 0 l k != atD 0 m k) = false := by assumption
     have h := HS.out
     rw [show decide (atD 0 l k = atD 0 m k) = true by simpa using hd, Bool.true_and] at h
     exact ⟨⟨k + 1, by omega, by go_num, h.symm, b5⟩, by simp [intOf]; omega⟩
   ·have : k = l.length := by omega
    subst this
    rw [List.drop_length, HL.out, List.drop_length] at hf
    have HF := hid hf; clear hf hlen
    go_wp2_with fail
    go_ret
    exact ⟨by rw [← HF.out]; rfl, hbr⟩
 ·have e : decide (l = m) = false := by
   simp only [decide_eq_false_iff_not]; intro e; exact hlen (by rw [e])
  rw [e]
  have hb : ((l.length : Int) != m.length) = true := by simp; omega
  clear e
  go_enter Tryz.func16, Tryz.ntmps16
  go_wp2_with fail
  go_ret
  exact ⟨rfl, Below.refl _ _⟩

theorem eqS (x y : ByteArray) : (x.toList == y.toList) = decide (x = y) := by
 rw [Bool.eq_iff_iff, decide_eq_true_iff, beq_iff_eq]
 constructor
 ·intro h
  rw [ByteArray.toList_eq, ByteArray.toList_eq] at h
  have := Array.toList_inj.1 h
  cases x; cases y; simp_all
 ·rintro rfl; rfl
/-- A list of pairs and an error came back. -/
def RetPE (W : World) (L : List (Int × Int)) (e : Int) (r : Ending) (w' : World) : Prop :=
 ∃ a cap, r = .returned (.tuple #[.slice a L.length cap, .int .i64 e]) ∧ Pairs w' a cap L ∧ (∀ b, a = some b → W.heap.size ≤ b.block) ∧ Below W.heap.size W w'
theorem pairs_nil (w : World) : Pairs w none 0 [] := ⟨cPairS, Nat.le_refl _, Nat.zero_le _, fun _ => rfl, fun j u hu => by simp at hu⟩
theorem RetPE.none {W w' : World} {e : Int} {r : Ending} (h1 : r = .returned (.tuple #[.slice none 0 0, .int .i64 e])) (h4 : Below W.heap.size W w') : RetPE W [] e r w' :=
 ⟨.none, 0, h1, pairs_nil _, (fun _ h => by cases h), h4⟩
theorem RetPE.own {W w' : World} {L : List (Int × Int)} {e : Int} {r : Ending} {B : Nat} {t : TypeId} (v : Value) (h1 : r = .returned (.tuple #[v, .int .i64 e])) (h2 : OwnP B t w' v L) (hB : W.heap.size ≤ B) (h4 : Below W.heap.size W w') : RetPE W L e r w' := by
 obtain ⟨a, cap, rfl, hr, hf, _⟩ := h2.reps
 exact ⟨a, cap, h1, hr, fun b hb => Nat.le_trans hB (hf b hb).1, h4⟩

end Go.Proofs.YtbchpkmcpplidaaGreatDoor

namespace Go.Proofs.YtbchpkmcpplidaaGreatDoor
open Go.RowKit
set_option maxHeartbeats 1000000
set_option maxRecDepth 100000

/-- A list of passes and an error came back. -/
def RetPsE (W : World) (L : List PassV) (e : Int) (r : Ending) (w' : World) : Prop :=
 ∃ a cap, r = .returned (.tuple #[.slice a L.length cap, .int .i64 e]) ∧ PassesR w' a cap L ∧ (∀ b, a = some b → W.heap.size ≤ b.block) ∧ Below W.heap.size W w'
theorem passesR_nil (w : World) : PassesR w none 0 [] := ⟨cPassS, Nat.le_refl _, Nat.zero_le _, fun _ => rfl, fun j u hu => by simp at hu⟩
theorem RetPsE.none {W w' : World} {e : Int} {r : Ending} (h1 : r = .returned (.tuple #[.slice none 0 0, .int .i64 e])) (h4 : Below W.heap.size W w') : RetPsE W [] e r w' :=
 ⟨.none, 0, h1, passesR_nil _, (fun _ h => by cases h), h4⟩
end Go.Proofs.YtbchpkmcpplidaaGreatDoor

namespace Go.Proofs.YtbchpkmcpplidaaGreatDoor
open Go.RowKit
set_option maxHeartbeats 1000000
set_option maxRecDepth 100000

theorem cStrO (x : ByteArray) : ∀ u ∈ (cStr x).cells.toList, u.oneCell' = true := by intro u hu; simp [cStr, Value.cells] at hu; subst hu; rfl
abbrev Strs (w : World) (a : Option Addr) (cap : Nat) (l : List ByteArray) : Prop := Reps cStr 1 w a cap l
abbrev OwnS (B : Nat) (w : World) (v : Value) (l : List ByteArray) : Prop := Own cStr 1 B 9 w v l
/-- A list of strings and an error came back. -/
def RetSE (W : World) (L : List ByteArray) (e : Int) (r : Ending) (w' : World) : Prop :=
 ∃ a cap, r = .returned (.tuple #[.slice a L.length cap, .int .i64 e]) ∧ Strs w' a cap L ∧ (∀ b, a = some b → W.heap.size ≤ b.block) ∧ Below W.heap.size W w'
theorem strs_nil (w : World) : Strs w none 0 [] := ⟨cStrS, Nat.le_refl _, Nat.zero_le _, fun _ => rfl, fun j u hu => by simp at hu⟩
theorem RetSE.none {W w' : World} {e : Int} {r : Ending} (h1 : r = .returned (.tuple #[.slice none 0 0, .int .i64 e])) (h4 : Below W.heap.size W w') : RetSE W [] e r w' :=
 ⟨.none, 0, h1, strs_nil _, (fun _ h => by cases h), h4⟩
theorem RetSE.own {W w' : World} {L : List ByteArray} {e : Int} {r : Ending} {B : Nat} (v : Value) (h1 : r = .returned (.tuple #[v, .int .i64 e])) (h2 : OwnS B w' v L) (hB : W.heap.size ≤ B) (h4 : Below W.heap.size W w') : RetSE W L e r w' := by
 obtain ⟨a, cap, rfl, hr, hf, _⟩ := h2.reps
 exact ⟨a, cap, h1, hr, fun b hb => Nat.le_trans hB (hf b hb).1, h4⟩

end Go.Proofs.YtbchpkmcpplidaaGreatDoor

namespace Go.Proofs.YtbchpkmcpplidaaGreatDoor
open Go.RowKit
set_option maxHeartbeats 1000000
set_option maxRecDepth 100000

theorem atD_take {r : List Int} {c k : Nat} (h : k < c) : atD 0 (r.take c) k = atD 0 r k := by
 unfold atD
 rw [List.getD_eq_getElem?_getD, List.getD_eq_getElem?_getD, List.getElem?_take]
 simp [h]
end Go.Proofs.YtbchpkmcpplidaaGreatDoor

namespace Go.Proofs.YtbchpkmcpplidaaGreatDoor
open Go.RowKit
section
variable {P : Program} {ops : Array Oper} {md : Region.Mode} {C : World → Prop}

def wpAnyLQ (P : Program) (md : Region.Mode) (ops : Array Oper) (C : World → Prop) (n : Nat) (L : Array Bool → Act → Prop) : Nat → Array Bool → Act → Prop
 | 0, listed, a => L listed a
 | f + 1, listed, a =>
  Region.ready md ops listed ≠ [] ∧ ∀ i ∈ Region.ready md ops listed, i < n ∧ qOp P ops C i (wpAnyLQ P md ops C n L f (listed.setIfInBounds i true)) a

theorem wpAny_of_headQ {n g : Nat} {L : Array Bool → Act → Prop} {Q' : Exit → Act → World → Prop} (hL : ∀ listed a w, C w → L listed a → wpAny P md ops Q' g listed a w) :
  ∀ (f : Nat) (listed : Array Bool) (a : Act) (w : World), C w → wpAnyLQ P md ops C n L f listed a → wpAny P md ops Q' (f + g) listed a w
 | 0, listed, a, w, hw, h => by rw [Nat.zero_add]; exact hL _ _ _ hw h
 | f + 1, listed, a, w, hw, h => by
   rw [show f + 1 + g = (f + g) + 1 by omega]
   exact ⟨fun h0 => absurd h0 h.1, fun i hi => wpOp_of_qOp hw (fun a' w' hw' h' => wpAny_of_headQ hL f _ a' w' hw' h') (h.2 i hi).2⟩

theorem wpAnyLQ_first {n i : Nat} {oi : Oper} {v : Value} {L : Array Bool → Act → Prop} (hi : ops[i]? = some oi) (hsel : ∀ (j : Nat) (o : Oper) cs b, ops[j]? = some o → o.op ≠ .select cs b)
  (hs : Region.sinkB md ops n = true) (hc : Region.chainB md ops n = true) (hn : n < ops.size) (hin : i < n)
  (hdone : ∀ listed a, L listed a → ∀ j ∈ Region.ready md ops listed, n ≤ j) :
  ∀ (f : Nat) (listed : Array Bool) (a : Act), HeadInv md ops n listed →
   (∀ j oj, ops[j]? = some oj → j ≠ i → listed.getD j true = false → (∀ e ∈ oj.after, Region.binds md e = true → e.on ≠ i) → oi.apart ops oj = true) →
   i ∈ Region.ready md ops listed → YieldsIn P ops C oi v a →
   wpAnyLQ P md ops C n L f (listed.setIfInBounds i true) (a.put oi.dst v) → wpAnyLQ P md ops C n L (f + 1) listed a := by
 intro f
 induction f with
 | zero =>
  intro listed a inv _ hr hy H
  have hun := (mem_ready.1 hr).1
  refine ⟨fun h => (by rw [h] at hr; cases hr), fun j hj => ?_⟩
  have hjn : j < n := by
   rcases Nat.lt_or_ge j n with h | h
   ·exact h
   ·exact absurd hj (tail_waits hs hc hn inv _ i rfl hin hun j h)
  refine ⟨hjn, ?_⟩
  by_cases hji : j = i
  ·subst hji; exact hy.qOp hi H
  ·have := hdone _ _ H j (ready_mono hj hji)
   omega
 | succ f ih =>
  intro listed a inv hfree hr hy H
  have hun := (mem_ready.1 hr).1
  refine ⟨fun h => (by rw [h] at hr; cases hr), fun j hj => ?_⟩
  have hjn : j < n := by
   rcases Nat.lt_or_ge j n with h | h
   ·exact h
   ·exact absurd hj (tail_waits hs hc hn inv _ i rfl hin hun j h)
  refine ⟨hjn, ?_⟩
  by_cases hji : j = i
  ·subst hji; exact hy.qOp hi H
  ·have h1 := (H.2 j (ready_mono hj hji)).2
   obtain ⟨hjun, oj, hoj, hall⟩ := mem_ready.1 hj
   have hnot : ∀ e ∈ oj.after, Region.binds md e = true → e.on ≠ i := fun e he hb heq => by
    have h1 := hall e he hb
    rw [heq, getD_both hun] at h1
    cases h1
   have h2 := qOp_put hoj (hfree j oj hoj hji hjun hnot) (fun cs b => hsel i oi cs b hi) (fun cs b => hsel j oj cs b hoj) hy h1
   have hfree' : ∀ k ok, ops[k]? = some ok → k ≠ i → (listed.setIfInBounds j true).getD k true = false →
     (∀ e ∈ ok.after, Region.binds md e = true → e.on ≠ i) → oi.apart ops ok = true := fun k ok hk hki hun hno => by
    refine hfree k ok hk hki ?_ hno
    by_cases hjk : j = k
    ·subst hjk; exact hjun
    ·rw [getD_set_ne true hjk] at hun; exact hun
   refine qOp_mono (fun a' h3 => ih (listed.setIfInBounds j true) a' (inv.set hj hjn) hfree' (ready_mono hr (Ne.symm hji)) h3.1 ?_) h2
   rw [Array.setIfInBounds_comm _ _ hji]
   exact h3.2

theorem wpAnyLQ_lex {n g : Nat} {Lq : Act → Prop} (hsel : Region.noSelect ops = true) (hs : Region.sinkB md ops n = true) (hc : Region.chainB md ops n = true) (hn : n < ops.size) :
  ∀ (l : List Oper) (k : Nat) (listed : Array Bool) (a : Act), (∀ j, j < l.length → l[j]? = ops[k + j]?) → k + l.length = n → HeadInv md ops n listed →
  Region.lexHead md ops g l.length k listed = true → wpQuiet P ops C Lq l a →
  wpAnyLQ P md ops C n (fun listed' a' => Region.seqB md ops g n listed' = true ∧ Lq a') l.length listed a
 | [], k, listed, a, _, hk, _, hB, h => by
   have : k = n := by simpa using hk
   subst this
   exact ⟨by simpa [Region.lexHead] using hB, h⟩
 | o :: l, k, listed, a, hl, hk, inv, hB, h => by
   have h0 : ops[k]? = some o := by simpa using (hl 0 (by simp)).symm
   simp only [List.length_cons, Region.lexHead, Bool.and_eq_true] at hB
   obtain ⟨⟨hr, hf⟩, hB'⟩ := hB
   have hkn : k < n := by simp only [List.length_cons] at hk; omega
   have hr' : k ∈ Region.ready md ops listed := by simpa using hr
   have hst : qOp P ops C k (wpQuiet P ops C Lq l) a := by unfold qOp; simp only [h0]; exact h
   obtain ⟨v, hy, hK⟩ := yieldsIn_of_qOp h0 hst
   exact wpAnyLQ_first h0 (Region.noSelect_spec hsel) hs hc hn hkn (fun listed' a' hL => seqB_ready hL.1) l.length listed a inv (Region.free_spec h0 hf) hr' hy
     (wpAnyLQ_lex hsel hs hc hn l (k + 1) _ _ (fun j hj => by have := hl (j + 1) (by simp; omega); simpa [Nat.add_assoc, Nat.add_comm 1 j] using this) (by simp only [List.length_cons] at hk; omega) (inv.set hr' hkn) hB' hK)

theorem wp_region_quiet_tail {id : Nat} {Q : Exit → Act → World → Prop} {a : Act} {w : World} {l : List Oper} (n : Nat) (hm : P.follows .mixedOrders = true) (hB : Region.lexTailB .any l.toArray n = true) (hC : C { w with drawn := w.drawn + 1 })
  (h : wpQuiet P l.toArray C (fun a' => ∀ w', C w' → wpList P l.toArray Q (l.drop n) a' w') (l.take n) a) : (Code.region id l.toArray true).wp P Q a w := by
 simp only [Region.lexTailB, Bool.and_eq_true, decide_eq_true_eq] at hB
 obtain ⟨⟨⟨⟨hsel, hn⟩, hs⟩, hc⟩, hlex⟩ := hB
 have hn' : n < l.length := by simpa using hn
 have htl : (l.take n).length = n := by simp; omega
 have hdl : (l.drop n).length = l.toArray.size - n := by simp
 have inv0 : HeadInv .any l.toArray n (Array.replicate l.toArray.size false) :=
  ⟨by simp, fun j oj _ hl => (by rw [getD_replicate_false] at hl; cases hl), fun t _ ht => getD_in (by simpa using ht) (getD_replicate_false _ _)⟩
 have H := wpAnyLQ_lex (md := .any) (g := l.toArray.size - n) hsel hs hc hn (l.take n) 0 _ a (fun j hj => by
  have hj' : j < n := by rw [htl] at hj; exact hj
  simp [hj']) (by simpa using htl) inv0 (by rw [htl]; exact hlex) h
 refine wp_region_any hm ?_
 have := wpAny_of_headQ (C := C) (Q' := Q) (g := l.toArray.size - n) (fun listed a' w' hw' hL => by
  have := wpAny_of_seq (md := .any) (Q' := Q) (l.drop n) n listed a' w' (fun j => by simp [List.getElem?_drop]) (by rw [hdl]; exact hL.1) (hL.2 w' hw')
  rwa [hdl] at this) _ _ _ _ hC H
 rw [htl, show n + (l.toArray.size - n) = l.toArray.size by omega] at this
 exact this
/-- .. in the class 'nothing below has turned'. -/
theorem wp_region_qt {id : Nat} {Q : Exit → Act → World → Prop} {a : Act} {w : World} {l : List Oper} (n : Nat) (hm : P.follows .mixedOrders = true) (hB : Region.lexTailB .any l.toArray n = true)
  (h : wpQuiet P l.toArray (Below w.heap.size w) (fun a' => ∀ w', Below w.heap.size w w' → wpList P l.toArray Q (l.drop n) a' w') (l.take n) a) : (Code.region id l.toArray true).wp P Q a w :=
 wp_region_quiet_tail n hm hB (Below.refl _ _).drew h
end
section
variable {P : Program} {ops : Array Oper} {Qa : Act → Prop} {w : World} {rest : List Oper} {a : Act} {ty : TypeId} {p : String} {af : Array Edge} {g : Option (Nat × Bool)} {d : Tmp}
theorem wpB_load {e : TypeId} {s : Operand} {b o : Nat} {cs : Array Value} {T : TypeId} {fr : Nat × Nat} {v : Value} (hF : Flat P e) (hg : Region.wanted (⟨some d, .load e s, ty, p, af, g⟩ : Oper) (yielded ops a.tmps) = true) (hs : a.eval s = .pointer (some ⟨b, o, none⟩))
  (hb : w.heap[b]? = some (.cells cs T fr)) (hv : cs[o]? = some v) (h : wpQuiet P ops (Below w.heap.size w) Qa rest (a.put (some d) v)) : wpQuiet P ops (Below w.heap.size w) Qa (⟨some d, .load e s, ty, p, af, g⟩ :: rest) a := by
 refine wpQ_inG v hg (fun w' hw' => ?_) h
 have hc : w'.cell? ⟨b, o, none⟩ = some v := by simp [World.cell?, hw'.block b (Array.getElem?_eq_some_iff.1 hb).1, hb, hv]
 simp [execOp, hs, run_loadAt_cell w' hF hc, Result.andThen]
theorem wpB_loadS {e : TypeId} {s : Operand} {b o n : Nat} {cs us : Array Value} {T : TypeId} {fr : Nat × Nat} (hF : Aggr P e) (hn : (P.info? e).map (·.size) = some n) (hg : Region.wanted (⟨some d, .load e s, ty, p, af, g⟩ : Oper) (yielded ops a.tmps) = true) (hs : a.eval s = .pointer (some ⟨b, o, none⟩))
  (hb : w.heap[b]? = some (.cells cs T fr)) (hv : (cs.toList.drop o).take n = us.toList) (hz : us.size = n) (h : wpQuiet P ops (Below w.heap.size w) Qa rest (a.put (some d) (.agg us))) : wpQuiet P ops (Below w.heap.size w) Qa (⟨some d, .load e s, ty, p, af, g⟩ :: rest) a := by
 refine wpQ_inG (.agg us) hg (fun w' hw' => ?_) h
 obtain ⟨i, hi, hs2⟩ : ∃ i, P.info? e = some i ∧ i.size = n := by
  cases hi : P.info? e with
  | none => rw [hi] at hn; cases hn
  | some i => rw [hi] at hn; exact ⟨i, rfl, by simpa using hn⟩
 have := run_loadAt_agg (a := ⟨b, o, none⟩) w' hF hi (cs := us.toList) (by simp [hs2, hz]) (fun j v hj => by
  have hj2 : us[j]? = some v := by simpa using hj
  have hjn : j < n := by rw [← hz]; exact (Array.getElem?_eq_some_iff.1 hj2).1
  have hcs : cs[o + j]? = some v := by
   have : us.toList[j]? = some v := by simpa using hj
   rw [← hv, List.getElem?_take, if_pos hjn, List.getElem?_drop] at this
   simpa using this
  rw [Addr.add_z]
  simp [World.cell?, hw'.block b (Array.getElem?_eq_some_iff.1 hb).1, hb, hcs])
 rw [Array.toArray_toList] at this
 simp [execOp, hs, this, Result.andThen]
theorem wpB_call {o : Oper} {f : FuncId} {args : Array Value} (v : Value) (hg : Region.wanted o (yielded ops a.tmps) = true) (hr : ∀ w', (execOp a.eval o).run P w' = .ok (.enter f args) w')
   (hcall : ∀ w', Below w.heap.size w w' → Calls P f args w' fun e w'' => e = .returned v ∧ Below w'.heap.size w' w'')
   (h : wpQuiet P ops (Below w.heap.size w) Qa rest (a.put o.dst v)) : wpQuiet P ops (Below w.heap.size w) Qa (o :: rest) a := by
 unfold wpQuiet
 rw [if_pos hg]
 refine ⟨v, fun w' hw' => ?_, h⟩
 unfold Oper.quietAt
 rw [hr w']
 exact ⟨rfl, (hcall w' hw').mono fun e w'' ⟨he, hb⟩ => ⟨he, bnext hw' hb⟩⟩
theorem calls_below {f : FuncId} {args : Array Value} {v : Value} (h : Calls P f args w fun e w' => e = .returned v ∧ w = w') : Calls P f args w fun e w' => e = .returned v ∧ Below w.heap.size w w' :=
 h.mono fun _ _ ⟨h1, h2⟩ => ⟨h1, h2 ▸ Below.refl _ _⟩
end

section
variable {P : Program} {ops : Array Oper} {Q : Exit → Act → World → Prop} {w w0 : World} {rest : List Oper} {a : Act} {ty : TypeId} {p : String} {af : Array Edge} {g : Option (Nat × Bool)} {B : Nat} {L : List Pc}
theorem wpList_ldB {d : Option Tmp} {e : TypeId} {s : Operand} {b o : Nat} {cs : Array Value} {T : TypeId} {fr : Nat × Nat} {v : Value} (hF : Flat P e) (hg : Region.wanted (⟨d, .load e s, ty, p, af, g⟩ : Oper) (yielded ops a.tmps) = true) (hs : a.eval s = .pointer (some ⟨b, o, none⟩))
  (hb : w.heap[b]? = some (.cells cs T fr)) (hv : cs[o]? = some v) (h : wpList P ops Q rest (a.put d v) w) : wpList P ops Q (⟨d, .load e s, ty, p, af, g⟩ :: rest) a w := by
 refine wpList_step fun K hK => ?_
 rw [if_pos hg]
 have hc : w.cell? ⟨b, o, none⟩ = some v := by simp [World.cell?, hb, hv]
 unfold Oper.wp
 simp [execOp, hs, run_loadAt_cell w hF hc, Result.andThen]
 exact hK _ _ h
theorem wpList_ldS {d : Option Tmp} {e : TypeId} {s : Operand} {b o n : Nat} {cs us : Array Value} {T : TypeId} {fr : Nat × Nat} (hF : Aggr P e) (hn : (P.info? e).map (·.size) = some n) (hg : Region.wanted (⟨d, .load e s, ty, p, af, g⟩ : Oper) (yielded ops a.tmps) = true) (hs : a.eval s = .pointer (some ⟨b, o, none⟩))
  (hb : w.heap[b]? = some (.cells cs T fr)) (hv : (cs.toList.drop o).take n = us.toList) (hz : us.size = n) (h : wpList P ops Q rest (a.put d (.agg us)) w) : wpList P ops Q (⟨d, .load e s, ty, p, af, g⟩ :: rest) a w := by
 refine wpList_step fun K hK => ?_
 rw [if_pos hg]
 obtain ⟨i, hi, hs2⟩ : ∃ i, P.info? e = some i ∧ i.size = n := by
  cases hi : P.info? e with
  | none => rw [hi] at hn; cases hn
  | some i => rw [hi] at hn; exact ⟨i, rfl, by simpa using hn⟩
 have := run_loadAt_agg (a := ⟨b, o, none⟩) w hF hi (cs := us.toList) (by simp [hs2, hz]) (fun j v hj => by
  have hj2 : us[j]? = some v := by simpa using hj
  have hjn : j < n := by rw [← hz]; exact (Array.getElem?_eq_some_iff.1 hj2).1
  have hcs : cs[o + j]? = some v := by
   have : us.toList[j]? = some v := by simpa using hj
   rw [← hv, List.getElem?_take, if_pos hjn, List.getElem?_drop] at this
   simpa using this
  rw [Addr.add_z]
  simp [World.cell?, hb, hcs])
 rw [Array.toArray_toList] at this
 unfold Oper.wp
 simp [execOp, hs, this, Result.andThen]
 exact hK _ _ h
theorem SL.setRow {k : Nat} {old : Array Value} {T : TypeId} {fr : Nat × Nat} (h : SL B w0 w L) (i : Nat) (hi : L[i]? = some (pBlk k (.cells old T fr))) (us : Array Value) : SL B w0 (w.setRow k us) (L.set i (pBlk k (.cells us T fr))) := by
 obtain ⟨b, ⟨rfl, h1⟩, h3, h4⟩ := h.upd i hi
 refine h4 _ _ (some k) ⟨rfl, rfl, rfl, by simp [World.setRow], fun m hm hne => ?_⟩ ⟨rfl, setRow_heap w k old us T fr h1⟩ (.inl rfl)
 simp only [World.setRow, Array.getElem?_modify]
 rw [if_neg (fun e => hne (by rw [e]))]
theorem wpList_stoR {e : TypeId} {x y : Operand} {k : Nat} {old us : Array Value} {T : TypeId} (i : Nat)
  (hx : a.eval x = .pointer (some ⟨k, 0, none⟩)) (hy : a.eval y = .agg us) (hS : SL B w0 w L) (hi : L[i]? = some (pBlk k (.cells old T (0, 0)))) (hz : (P.info? e).map (·.size) = some us.size) (ho : old.size = us.size) (h1 : us.all (·.oneCell') = true)
  (hK : ∀ w', SL B w0 w' (L.set i (pBlk k (.cells us T (0, 0)))) → wpList P ops Q rest (a.put none undef) w') : wpList P ops Q (⟨none, .store e x y, ty, p, af, none⟩ :: rest) a w := by
 refine wpList_plain rfl fun K hK' => ?_
 have := run_storeVar_row (P := P) w k T e old us (hS.blk i hi).1 hz ho h1
 unfold Oper.wp
 simp only [execOp, hx, hy, Instr.storeAt, Instr.sureAddr, Sem.run_bind, Sem.run_pure, Result.andThen_ok, this]
 exact hK' _ _ (hK _ (hS.setRow i hi us))
theorem results_cell {fn : Func} {tmps : Array Value} {t T k : Nat} {us : Array Value} {T' : TypeId} {fr : Nat × Nat} (h : fn.results = #[.cell t T]) (ht : tmps.getD t undef = .pointer (some ⟨k, 0, none⟩)) (hu : Aggr P T) (hz : (P.info? T).map (·.size) = some us.size) (hb : w.heap[k]? = some (.cells us T' fr)) :
  (results fn tmps).run P w = .ok (.agg us) w := by
 obtain ⟨d, hd, hdd⟩ := hu
 have := run_loadVar_row (P := P) w k T' T us fr d hb hd (by cases d <;> first | exact hdd | rfl | cases hdd) hz
 simp only [Array.getD_eq_getD_getElem?] at ht
 simp [results, h, ht, asAddr, this]
theorem results_cell2 {fn : Func} {tmps : Array Value} {t T k t2 k2 : Nat} {us us2 : Array Value} {T' T2' : TypeId} {fr fr2 : Nat × Nat} (h : fn.results = #[.cell t T, .cell t2 T]) (ht : tmps.getD t undef = .pointer (some ⟨k, 0, none⟩)) (ht2 : tmps.getD t2 undef = .pointer (some ⟨k2, 0, none⟩)) (hu : Aggr P T) (hz : (P.info? T).map (·.size) = some us.size) (hz2 : (P.info? T).map (·.size) = some us2.size)
  (hb : w.heap[k]? = some (.cells us T' fr)) (hb2 : w.heap[k2]? = some (.cells us2 T2' fr2)) :
  (results fn tmps).run P w = .ok (.tuple #[.agg us, .agg us2]) w := by
 obtain ⟨d, hd, hdd⟩ := hu
 have := run_loadVar_row (P := P) w k T' T us fr d hb hd (by cases d <;> first | exact hdd | rfl | cases hdd) hz
 have h2 := run_loadVar_row (P := P) w k2 T2' T us2 fr2 d hb2 hd (by cases d <;> first | exact hdd | rfl | cases hdd) hz2
 simp only [Array.getD_eq_getD_getElem?] at ht ht2
 simp [results, h, ht, ht2, asAddr, this, h2]
end
end Go.Proofs.YtbchpkmcpplidaaGreatDoor

namespace Go.Proofs.YtbchpkmcpplidaaGreatDoor
open Go.RowKit
section
variable {P : Program} {ops : Array Oper} {Q : Exit → Act → World → Prop} {md : Region.Mode} {C : World → Prop}

/-- the same value in every world of the class, the world left alone. -/
def YieldsC (P : Program) (ops : Array Oper) (C : World → Prop) (o : Oper) (v : Value) (a : Act) : Prop :=
 (Region.wanted o (yielded ops a.tmps) = true ∧ ∀ w, C w → (execOp a.eval o).run P w = .ok (.value v) w) ∨
 (Region.wanted o (yielded ops a.tmps) = false ∧ v = undef)
theorem YieldsC.wpOp {i : Nat} {o : Oper} {v : Value} {a : Act} (hi : ops[i]? = some o) (hy : YieldsC P ops C o v a)
  {K : Act → World → Prop} {w : World} (hC : C w) (h : K (a.put o.dst v) w) : wpOp P ops Q i K a w := by
 unfold Go.wpOp
 simp only [hi]
 rcases hy with ⟨hw, hv⟩ | ⟨hw, rfl⟩
 ·simp only [hw, if_true, Oper.wp, hv w hC, Oper.upon]; exact .inl h
 ·simp only [hw, Bool.false_eq_true, if_false]; exact h
theorem YieldsC.of_same {o : Oper} {v : Value} {a a' : Act} (hy : YieldsC P ops C o v a) (he : execOp a'.eval o = execOp a.eval o)
  (hw : Region.wanted o (yielded ops a'.tmps) = Region.wanted o (yielded ops a.tmps)) : YieldsC P ops C o v a' := by
 unfold YieldsC at *
 rw [he, hw]
 exact hy

theorem wpOp_putC {j : Nat} {oi oj : Oper} {v : Value} (hj : ops[j]? = some oj) (hap : oi.apart ops oj = true)
  (hsi : ∀ cs b, oi.op ≠ .select cs b) (hsj : ∀ cs b, oj.op ≠ .select cs b)
  (hQ : ∀ c a w, ¬ Q (.panic c) a w) {K : Act → World → Prop} {a : Act} {w : World}
  (hy : YieldsC P ops C oi v a) (h : wpOp P ops Q j K (a.put oi.dst v) w) :
  wpOp P ops Q j (fun a' w' => YieldsC P ops C oi v a' ∧ K (a'.put oi.dst v) w') a w := by
 obtain ⟨h1, h2, h3⟩ := Oper.apart_spec hap
 have keep : ∀ (a : Act), YieldsC P ops C oi v a → ∀ u, YieldsC P ops C oi v (a.put oj.dst u) := fun a hy u =>
  hy.of_same (execOp_put oi hsi a oj.dst u h3) (wanted_put oi a oj.dst u h3)
 have keepD : ∀ d, YieldsC P ops C oi v { a with defers := d :: a.defers } := fun d => hy.of_same rfl rfl
 unfold wpOp at *
 simp only [hj] at *
 rw [wanted_put oj a oi.dst v h1] at h
 split
 ·rename_i hw
  simp only [hw, if_true] at h
  rcases h with h | ⟨hasks, hlets⟩
  case inr => exact .inr ⟨by unfold Oper.asks at *; rw [execOp_put oj hsj a oi.dst v h1] at hasks; exact hasks, hlets⟩
  refine .inl ?_
  unfold Oper.wp at *
  rw [execOp_put oj hsj a oi.dst v h1] at h
  generalize (execOp a.eval oj).run P w = r at *
  cases r with
  | ok n w' =>
   cases n <;> simp only [Oper.upon] at h ⊢
   case value u => exact ⟨keep a hy u, by rw [← Act.put_comm a v u h2]; exact h⟩
   case skip => exact ⟨keep a hy _, by rw [← Act.put_comm a v undef h2]; exact h⟩
   case defer d =>
    refine ⟨keep _ (keepD d) _, ?_⟩
    rw [← Act.put_comm _ v undef h2, ← Act.put_defers]
    exact h
   case enter f args =>
    refine Calls.mono h fun e w'' he => ?_
    cases e with
    | returned u => exact ⟨keep a hy u, by rw [← Act.put_comm a v u h2]; exact he⟩
    | panicked c => exact absurd he (hQ _ _ _)
    | outgrown => exact he
   case row row args => exact Rows.mono h fun u w'' he => ⟨keep a hy u, by rw [← Act.put_comm a v u h2]; exact he⟩
  | halt x w' =>
   cases x <;> simp only [Oper.upon] at h ⊢
   case panic u => exact absurd h (hQ _ _ _)
 ·rename_i hw
  simp only [hw] at h
  exact ⟨keep a hy _, by rw [← Act.put_comm a v undef h2]; exact h⟩

/-- whatever order is picked; the class is kept. -/
def wpAnyC (P : Program) (md : Region.Mode) (ops : Array Oper) (C : World → Prop) (Q : Exit → Act → World → Prop) : Nat → Array Bool → Act → World → Prop
 | 0, listed, a, w => Region.ready md ops listed = [] ∧ Q .normal a w
 | fuel + 1, listed, a, w =>
  (Region.ready md ops listed = [] → Q .normal a w) ∧
  ∀ i ∈ Region.ready md ops listed, wpOp P ops Q i (fun a' w' => C w' ∧ wpAnyC P md ops C Q fuel (listed.setIfInBounds i true) a' w') a w
theorem wpAny_of_C : ∀ (fuel : Nat) (listed : Array Bool) (a : Act) (w : World), wpAnyC P md ops C Q fuel listed a w → wpAny P md ops Q fuel listed a w
 | 0, _, _, _, h => h
 | fuel + 1, _, _, _, h => ⟨h.1, fun i hi => wpOp_mono (fun _ _ h' => wpAny_of_C fuel _ _ _ h'.2) (h.2 i hi)⟩

theorem wpAnyC_first {i : Nat} {oi : Oper} {v : Value} (hi : ops[i]? = some oi) (hsel : ∀ (j : Nat) (o : Oper) cs b, ops[j]? = some o → o.op ≠ .select cs b) (hQ : ∀ c a w, ¬ Q (.panic c) a w) :
  ∀ (fuel : Nat) (listed : Array Bool) (a : Act) (w : World), C w →
   (∀ j oj, ops[j]? = some oj → j ≠ i → listed.getD j true = false → (∀ e ∈ oj.after, Region.binds md e = true → e.on ≠ i) → oi.apart ops oj = true) →
   i ∈ Region.ready md ops listed → YieldsC P ops C oi v a →
   wpAnyC P md ops C Q fuel (listed.setIfInBounds i true) (a.put oi.dst v) w → wpAnyC P md ops C Q (fuel + 1) listed a w := by
 intro fuel
 induction fuel with
 | zero =>
  intro listed a w hC _ hr hy H
  refine ⟨fun h => (by rw [h] at hr; cases hr), fun j hj => ?_⟩
  by_cases hji : j = i
  ·subst hji; exact hy.wpOp hi hC ⟨hC, H⟩
  ·have := ready_mono hj hji
   rw [H.1] at this
   cases this
 | succ fuel ih =>
  intro listed a w hC hfree hr hy H
  refine ⟨fun h => (by rw [h] at hr; cases hr), fun j hj => ?_⟩
  by_cases hji : j = i
  ·subst hji; exact hy.wpOp hi hC ⟨hC, H⟩
  ·have h1 := H.2 j (ready_mono hj hji)
   obtain ⟨hjun, oj, hoj, hall⟩ := mem_ready.1 hj
   have hnot : ∀ e ∈ oj.after, Region.binds md e = true → e.on ≠ i := fun e he hb heq => by
    have h1 := hall e he hb
    have h0 := (mem_ready.1 hr).1
    rw [heq, getD_both h0] at h1
    cases h1
   have h2 := wpOp_putC hoj (hfree j oj hoj hji hjun hnot) (fun cs b => hsel i oi cs b hi) (fun cs b => hsel j oj cs b hoj) hQ hy h1
   have hfree' : ∀ k ok, ops[k]? = some ok → k ≠ i → (listed.setIfInBounds j true).getD k true = false →
     (∀ e ∈ ok.after, Region.binds md e = true → e.on ≠ i) → oi.apart ops ok = true := fun k ok hk hki hun hno => by
    refine hfree k ok hk hki ?_ hno
    by_cases hjk : j = k
    ·subst hjk; exact hjun
    ·rw [getD_set_ne true hjk] at hun; exact hun
   refine wpOp_mono (fun a' w' h3 => ⟨h3.2.1, ih (listed.setIfInBounds j true) a' w' h3.2.1 hfree' (ready_mono hr (Ne.symm hji)) h3.1 ?_⟩) h2
   rw [Array.setIfInBounds_comm _ _ hji]
   exact h3.2.2

/-- these operations may come first, in this order. -/
def Region.firstB (md : Region.Mode) (ops : Array Oper) : List Nat → Array Bool → Bool
 | [], _ => true
 | q :: qs, listed => (Region.ready md ops listed).contains q && Region.free md ops listed q && Region.firstB md ops qs (listed.setIfInBounds q true)
def listAll (listed : Array Bool) (qs : List Nat) : Array Bool := qs.foldl (fun l q => l.setIfInBounds q true) listed
/-- the walk of those. -/
def wpPure (P : Program) (ops : Array Oper) (C : World → Prop) (K : Act → Prop) : List Oper → Act → Prop
 | [], a => K a
 | o :: r, a => ∃ v, YieldsC P ops C o v a ∧ wpPure P ops C K r (a.put o.dst v)
theorem wpAnyC_pure (hsel : Region.noSelect ops = true) (hQ : ∀ c a w, ¬ Q (.panic c) a w) {w : World} (hC : C w) {g : Nat} : ∀ (qs : List Nat) (l : List Oper) (listed : Array Bool) (a : Act), qs.map (fun i => ops[i]?) = l.map some →
  Region.firstB md ops qs listed = true → wpPure P ops C (fun a' => wpAnyC P md ops C Q g (listAll listed qs) a' w) l a → wpAnyC P md ops C Q (g + qs.length) listed a w
 | [], [], listed, a, _, _, h => h
 | [], _ :: _, _, _, hm, _, _ => by cases hm
 | _ :: _, [], _, _, hm, _, _ => by cases hm
 | q :: qs, o :: l, listed, a, hm, hB, h => by
   simp only [List.map_cons, List.cons.injEq] at hm
   simp only [Region.firstB, Bool.and_eq_true] at hB
   obtain ⟨v, hy, hK⟩ := h
   exact wpAnyC_first hm.1 (Region.noSelect_spec hsel) hQ (g + qs.length) listed a w hC (Region.free_spec hm.1 hB.1.2) (by simpa using hB.1.1) hy
     (wpAnyC_pure hsel hQ hC qs l _ _ hm.2 hB.2 hK)

end
end Go.Proofs.YtbchpkmcpplidaaGreatDoor

namespace Go.Proofs.YtbchpkmcpplidaaGreatDoor
open Go.RowKit
set_option maxHeartbeats 400000
set_option maxRecDepth 100000

def permGo (n : Nat) : List Int → List Int → Int
 | _, [] => 0
 | seen, x :: r => if x < 0 ∨ n ≤ x ∨ x ∈ seen then 15 else permGo n (seen ++ [x]) r
def permE (l : List Int) : Int := if 256 < l.length then 5 else permGo l.length [] l

theorem permGo_step (n : Nat) (l : List Int) (k : Nat) (h : k < l.length) : permGo n (l.take k) (l.drop k) =
  if atD 0 l k < 0 ∨ n ≤ atD 0 l k ∨ atD 0 l k ∈ l.take k then 15 else permGo n (l.take (k + 1)) (l.drop (k + 1)) := by
 have e : l.drop k = l[k] :: l.drop (k + 1) := List.drop_eq_getElem_cons h
 have e2 : atD 0 l k = l[k] := by simp [atD, h]
 rw [e, e2, permGo, List.take_succ_eq_append_getElem h]

theorem CheckPerm_any (a : Option Addr) (cap : Nat) (l : List Int) (w : World) (hS : Ints w a cap l) (hI : ∀ x ∈ l, InI x) :
  Calls Tryz.prog 109 #[.slice a l.length cap] w fun r w' => r = .returned (.int .i64 (permE l)) ∧ Below w.heap.size w w' := by
 have hcap := hS.le
 have hm := hS.max
 have hmm := @run_makeMap Tryz.prog
 by_cases h64 : 256 < l.length
 ·have hs : permE l = 5 := by simp [permE, h64]
  have HS := hid hs; clear hs
  go_enter Tryz.func109, Tryz.ntmps109
  go_wp2
  go_ret
  exact ⟨by rw [HS.out]; rfl, Below.refl _ _⟩
 have hs : permE l = permGo l.length [] l := by simp [permE, h64]
 have HS := hid hs; clear hs
 go_enter Tryz.func109, Tryz.ntmps109
 go_wp2
 go_loopw [5, 12] (fun _ i wr => ∃ k : Nat, k ≤ l.length ∧ i = .int .i64 k ∧ MapB wr w.heap.size k (fun x => decide (x ∈ l.take k)) ∧ Below w.heap.size w wr ∧ permGo l.length (l.take k) (l.drop k) = permE l) (fun _ i _ => l.length - (intOf i).toNat)
 case atStart =>
  refine ⟨0, by omega, rfl, ?_, bal (Below.refl _ _) _, by simp [HS.out]⟩
  have := mapB_made w
  simpa using this
 case round =>
  obtain ⟨k, hk, rfl, hmap, hb, hgo⟩ := hrel
  have hmlt := hmap.lt
  have hR := hS.below hb
  have hnk : k < maxLen := by unfold maxLen; omega
  by_cases hlt : k < l.length
  ·have hstep := permGo_step l.length l k hlt
   have hin : InI (atD 0 l k) := hI _ (by simp [atD, hlt])
   rw [hgo] at hstep
   have hT : l.take (k + 1) = l.take k ++ [atD 0 l k] := by rw [List.take_succ_eq_append_getElem hlt]; simp [atD, hlt]
   have HT := hid hT; clear hT
   have HG := hid hgo; clear hgo
   have HT2 := hid hstep; clear hstep
   have HI := hid hin; clear hin
   by_cases c1 : atD 0 l k < 0
   ·go_wp2_with (first | (with_reducible refine wpList_idx _ 0 E_ints F_int cInt1 (by with_unfolding_all rfl) (by with_unfolding_all rfl) (hR) (by first | omega | (simp; done)) (by first | omega | (simp; done)) (fun _ => by with_unfolding_all rfl) (fun _ => ?_)) | (with_reducible refine wpList_lookB (by with_unfolding_all rfl) (by with_unfolding_all rfl) (hmap) (HI.out) (by with_unfolding_all rfl) ?_))
    all_goals
     go_ret
     exact ⟨by rw [HT2.out, if_pos (.inl c1)]; rfl, hb⟩
   by_cases c2 : (l.length : Int) ≤ atD 0 l k
   ·go_wp2_with (first | (with_reducible refine wpList_idx _ 0 E_ints F_int cInt1 (by with_unfolding_all rfl) (by with_unfolding_all rfl) (hR) (by first | omega | (simp; done)) (by first | omega | (simp; done)) (fun _ => by with_unfolding_all rfl) (fun _ => ?_)) | (with_reducible refine wpList_lookB (by with_unfolding_all rfl) (by with_unfolding_all rfl) (hmap) (HI.out) (by with_unfolding_all rfl) ?_))
    all_goals
     go_ret
     exact ⟨by rw [HT2.out, if_pos (.inr (.inl c2))]; rfl, hb⟩
   by_cases c4 : atD 0 l k ∈ l.take k
   ·have hd : decide (atD 0 l k ∈ l.take k) = true := by simpa using c4
    have HC := hid c4; clear c4
    go_wp2_with (first | (with_reducible refine wpList_idx _ 0 E_ints F_int cInt1 (by with_unfolding_all rfl) (by with_unfolding_all rfl) (hR) (by first | omega | (simp; done)) (by first | omega | (simp; done)) (fun _ => by with_unfolding_all rfl) (fun _ => ?_)) | (with_reducible refine wpList_lookB (by with_unfolding_all rfl) (by with_unfolding_all rfl) (hmap) (HI.out) (by with_unfolding_all rfl) ?_))
    go_ret
    exact ⟨by rw [HT2.out, if_pos (.inr (.inr HC.out))]; rfl, hb⟩
   ·have hd : decide (atD 0 l k ∈ l.take k) = false := by simpa using c4
    have HC := hid c4; clear c4
    go_wp2_with (first | (with_reducible refine wpList_idx _ 0 E_ints F_int cInt1 (by with_unfolding_all rfl) (by with_unfolding_all rfl) (hR) (by first | omega | (simp; done)) (by first | omega | (simp; done)) (fun _ => by with_unfolding_all rfl) (fun _ => ?_)) | (with_reducible refine wpList_lookB (by with_unfolding_all rfl) (by with_unfolding_all rfl) (hmap) (HI.out) (by with_unfolding_all rfl) ?_) | ((with_reducible refine wpList_putB (by with_unfolding_all rfl) (by with_unfolding_all rfl) (by with_unfolding_all rfl) (hmap) (HI.out) (hnk) ?_); intro w1 hm1 hg1))
    have e : (fun x => if x = atD 0 l k then true else decide (x ∈ l.take k)) = (fun x => decide (x ∈ l.take (k + 1))) := by
     funext x
     rw [HT.out]
     by_cases e : x = atD 0 l k <;> simp [e]
    rw [e] at hm1
    go_roundw
    case rel => exact ⟨k + 1, by omega, by go_num, hm1, hb.grown hg1 hb.size (fun j hj => by cases hj; omega), by rw [HT2.out, if_neg (by rintro (h | h | h); exact c1 h; exact c2 h; exact HC.out h)]⟩
    case measure => simp [intOf]; omega
  ·have : k = l.length := by omega
   subst this
   have e : permGo l.length (l.take l.length) (l.drop l.length) = 0 := by simp [permGo]
   rw [e] at hgo
   have HG := hid hgo; clear hgo e
   go_wp2
   go_ret
   exact ⟨by rw [← HG.out]; rfl, hb⟩
end Go.Proofs.YtbchpkmcpplidaaGreatDoor

namespace Go.Proofs.YtbchpkmcpplidaaGreatDoor
open Go.RowKit

theorem php : ∀ (n : Nat) (f : Nat → Nat), (∀ k, k ≤ n → f k < n) → ∃ a b, a < b ∧ b ≤ n ∧ f a = f b
 | 0, f, h => absurd (h 0 (Nat.le_refl _)) (by omega)
 | n + 1, f, h => by
   by_cases hex : ∃ a, a ≤ n ∧ f a = f (n + 1)
   · obtain ⟨a, ha, e⟩ := hex
     exact ⟨a, n + 1, by omega, by omega, e⟩
   · have hne : ∀ a, a ≤ n → f a ≠ f (n + 1) := fun a ha e => hex ⟨a, ha, e⟩
     obtain ⟨a, b, h1, h2, h3⟩ := php n (fun k => if f (n + 1) < f k then f k - 1 else f k) (fun k hk => by
       have h1 := h k (by omega); have h2 := h (n + 1) (by omega); have h3 := hne k hk
       split <;> omega)
     refine ⟨a, b, h1, by omega, ?_⟩
     have ha := hne a (by omega); have hb := hne b h2
     split at h3 <;> split at h3 <;> omega

theorem nodup_ne {l : List Int} (h : l.Nodup) {a b : Nat} (hab : a < b) (hb : b < l.length) : atD 0 l a ≠ atD 0 l b := by
 have := (List.pairwise_iff_getElem.1 h) a b (by omega) hb hab
 simpa [atD, hb, show a < l.length by omega] using this

theorem nodup_le (n : Nat) (l : List Int) (hn : l.Nodup) (hr : ∀ x ∈ l, 0 ≤ x ∧ x < n) : l.length ≤ n := by
 rcases Nat.lt_or_ge n l.length with h | h
 ·obtain ⟨a, b, h1, h2, h3⟩ := php n (fun k => (atD 0 l k).toNat) (fun k hk => by
   have := hr (atD 0 l k) (by simp [atD, show k < l.length by omega])
   omega)
  have ha := hr (atD 0 l a) (by simp [atD, show a < l.length by omega])
  have hb := hr (atD 0 l b) (by simp [atD, show b < l.length by omega])
  exact absurd (by omega) (nodup_ne hn h1 (by omega))
 ·exact h

/-- a permutation of 0 .. n - 1. -/
structure IsP (p : List Int) : Prop where
 rng : ∀ x : Int, 0 ≤ x → x < p.length → 0 ≤ atD 0 p x ∧ atD 0 p x < p.length
 inj : ∀ x y : Int, 0 ≤ x → x < p.length → 0 ≤ y → y < p.length → atD 0 p x = atD 0 p y → x = y

theorem permGo_zero (n : Nat) : ∀ (r seen : List Int), permGo n seen r = 0 → (∀ x ∈ r, 0 ≤ x ∧ x < n ∧ x ∉ seen) ∧ r.Nodup
 | [], _, _ => by simp
 | x :: r, seen, h => by
   rw [permGo] at h
   split at h
   · omega
   · rename_i hc
     obtain ⟨h1, h2⟩ := permGo_zero n r _ h
     have hx : 0 ≤ x ∧ x < n ∧ x ∉ seen := ⟨by omega, by omega, fun e => hc (.inr (.inr e))⟩
     refine ⟨fun y hy => ?_, List.nodup_cons.2 ⟨fun e => (h1 x e).2.2 (by simp), h2⟩⟩
     rcases List.mem_cons.1 hy with rfl | hy
     · exact hx
     · obtain ⟨a, b, c⟩ := h1 y hy
       exact ⟨a, b, fun e => c (List.mem_append_left _ e)⟩

theorem permE_zero {p : List Int} (h : permE p = 0) : p.length ≤ 256 ∧ (∀ x ∈ p, 0 ≤ x ∧ x < p.length) ∧ p.Nodup := by
 unfold permE at h
 split at h
 ·omega
 ·obtain ⟨h1, h2⟩ := permGo_zero _ _ _ h
  exact ⟨by omega, fun x hx => ⟨(h1 x hx).1, (h1 x hx).2.1⟩, h2⟩

theorem atD_memZ {l : List Int} {x : Int} (h0 : 0 ≤ x) (h1 : x < l.length) : atD 0 l x ∈ l := by
 have : x.toNat < l.length := by omega
 simp [atD, this]

theorem isP_of {p : List Int} (h : permE p = 0) : IsP p := by
 obtain ⟨_, h1, h2⟩ := permE_zero h
 refine ⟨fun x a b => h1 _ (atD_memZ a b), fun x y a b c d e => ?_⟩
 have ex : atD 0 p x = atD 0 p (x.toNat : Int) := by rw [Int.toNat_of_nonneg a]
 have ey : atD 0 p y = atD 0 p (y.toNat : Int) := by rw [Int.toNat_of_nonneg c]
 rw [ex, ey] at e
 rcases Nat.lt_trichotomy x.toNat y.toNat with k | k | k
 ·exact absurd e (nodup_ne h2 k (by omega))
 ·omega
 ·exact absurd e.symm (nodup_ne h2 k (by omega))

def itP (p : List Int) (i : Int) : Nat → Int
 | 0 => i
 | k + 1 => atD 0 p (itP p i k)
theorem itP_add (p : List Int) (i : Int) (b : Nat) : ∀ a : Nat, itP p i (a + b) = itP p (itP p i b) a
 | 0 => by simp [itP]
 | a + 1 => by
   have : a + 1 + b = (a + b) + 1 := by omega
   rw [this, itP, itP, itP_add p i b a]

section
variable {p : List Int} (hp : IsP p)
include hp
theorem itP_rng {i : Int} (h0 : 0 ≤ i) (h1 : i < p.length) : ∀ k, 0 ≤ itP p i k ∧ itP p i k < p.length
 | 0 => ⟨h0, h1⟩
 | k + 1 => hp.rng _ (itP_rng h0 h1 k).1 (itP_rng h0 h1 k).2
theorem itP_inj {x y : Int} (hx : 0 ≤ x) (hx1 : x < p.length) (hy : 0 ≤ y) (hy1 : y < p.length) : ∀ k, itP p x k = itP p y k → x = y
 | 0, h => h
 | k + 1, h => itP_inj hx hx1 hy hy1 k (hp.inj _ _ (itP_rng hp hx hx1 k).1 (itP_rng hp hx hx1 k).2 (itP_rng hp hy hy1 k).1 (itP_rng hp hy hy1 k).2 h)
theorem itP_back {i : Int} (h0 : 0 ≤ i) (h1 : i < p.length) : ∃ d, 0 < d ∧ d ≤ p.length ∧ itP p i d = i := by
 obtain ⟨a, b, hab, hb, he⟩ := php p.length (fun k => (itP p i k).toNat) (fun k _ => by have := itP_rng hp h0 h1 k; omega)
 have ra := itP_rng hp h0 h1 a
 have rb := itP_rng hp h0 h1 b
 have e : itP p i a = itP p i b := by omega
 have e2 : itP p i b = itP p (itP p i (b - a)) a := by rw [← itP_add]; congr 1; omega
 rw [e2] at e
 have rd := itP_rng hp h0 h1 (b - a)
 exact ⟨b - a, by omega, by omega, (itP_inj hp h0 h1 rd.1 rd.2 a e).symm⟩
end

theorem leastN (q : Nat → Prop) : ∀ d, q d → ∃ m, m ≤ d ∧ q m ∧ ∀ j, j < m → ¬ q j := by
 intro d
 induction d using Nat.strongRecOn with
 | _ d ih =>
  intro h
  by_cases hex : ∃ j, j < d ∧ q j
  ·obtain ⟨j, hj, hq⟩ := hex
   obtain ⟨m, h1, h2, h3⟩ := ih j hj hq
   exact ⟨m, by omega, h2, h3⟩
  ·exact ⟨d, Nat.le_refl _, h, fun j hj hq => hex ⟨j, hj, hq⟩⟩

/-- d is the least number of steps above 0 after which i comes again. -/
structure Ord (p : List Int) (i : Int) (d : Nat) : Prop where
 pos : 0 < d
 le : d ≤ p.length
 back : itP p i d = i
 min : ∀ j, 0 < j → j < d → itP p i j ≠ i

theorem ord_ex {p : List Int} (hp : IsP p) {i : Int} (h0 : 0 ≤ i) (h1 : i < p.length) : ∃ d, Ord p i d := by
 obtain ⟨d, a, b, c⟩ := itP_back hp h0 h1
 obtain ⟨m, h2, ⟨h3, h4⟩, h5⟩ := leastN (fun d => 0 < d ∧ itP p i d = i) d ⟨a, c⟩
 exact ⟨m, h3, by omega, h4, fun j hj hjm e => h5 j hjm ⟨hj, e⟩⟩

def orbGo (p : List Int) (i : Int) : Nat → Int → List Int
 | 0, _ => []
 | f + 1, x => x :: (if atD 0 p x = i then [] else orbGo p i f (atD 0 p x))
def orb (p : List Int) (i : Int) : List Int := orbGo p i p.length i

theorem orbGo_eq {p : List Int} {i : Int} {d : Nat} (h : Ord p i d) : ∀ (f k : Nat), k < d → d ≤ k + f → orbGo p i f (itP p i k) = (List.range' k (d - k)).map (itP p i)
 | 0, k, h1, h2 => by omega
 | f + 1, k, h1, h2 => by
   rw [orbGo]
   have e : d - k = (d - (k + 1)) + 1 := by omega
   rw [e, List.range'_succ, List.map_cons]
   congr 1
   by_cases hk : k + 1 = d
   · have e2 : atD 0 p (itP p i k) = i := by have := h.back; rw [← hk] at this; exact this
     rw [if_pos e2, hk]; simp
   · have hne : atD 0 p (itP p i k) ≠ i := h.min (k + 1) (by omega) (by omega)
     rw [if_neg hne]
     exact orbGo_eq h f (k + 1) (by omega) (by omega)
theorem orb_eq {p : List Int} {i : Int} {d : Nat} (h : Ord p i d) : orb p i = (List.range d).map (itP p i) := by
 have := orbGo_eq h p.length 0 h.pos (by have := h.le; omega)
 rw [orb, List.range_eq_range']; simpa [itP] using this
theorem orb_len {p : List Int} {i : Int} {d : Nat} (h : Ord p i d) : (orb p i).length = d := by rw [orb_eq h]; simp

theorem orb_nodup {p : List Int} (hp : IsP p) {i : Int} (h0 : 0 ≤ i) (h1 : i < p.length) {d : Nat} (h : Ord p i d) : (orb p i).Nodup := by
 rw [orb_eq h, List.Nodup, List.pairwise_map, List.pairwise_iff_getElem]
 intro a b ha hb hab
 simp at ha hb ⊢
 intro e
 have e2 : itP p i b = itP p (itP p i (b - a)) a := by rw [← itP_add]; congr 1; omega
 rw [e2] at e
 have rd := itP_rng hp h0 h1 (b - a)
 exact h.min (b - a) (by omega) (by omega) (itP_inj hp h0 h1 rd.1 rd.2 a e).symm

/-- the cycles that the first k places have. -/
def cycK (p : List Int) : Nat → List (List Int)
 | 0 => []
 | k + 1 => if (k : Int) ∈ (cycK p k).flatten then cycK p k else cycK p k ++ [orb p k]

theorem cycK_ok {p : List Int} (hp : IsP p) : ∀ k, k ≤ p.length → (cycK p k).flatten.Nodup ∧ (∀ x ∈ (cycK p k).flatten, 0 ≤ x ∧ x < p.length) ∧ (∀ x ∈ (cycK p k).flatten, atD 0 p x ∈ (cycK p k).flatten)
 | 0, _ => by simp [cycK]
 | k + 1, hk => by
   obtain ⟨h1, h2, h3⟩ := cycK_ok hp k (by omega)
   rw [cycK]
   split
   · exact ⟨h1, h2, h3⟩
   · rename_i hnot
     have hk0 : (0 : Int) ≤ k := by omega
     have hk1 : (k : Int) < p.length := by omega
     obtain ⟨d, hd⟩ := ord_ex hp hk0 hk1
     have hmem : ∀ x, x ∈ orb p k ↔ ∃ j, j < d ∧ itP p k j = x := by intro x; rw [orb_eq hd]; simp
     have hcl : ∀ m (x : Int), x ∈ (cycK p k).flatten → itP p x m ∈ (cycK p k).flatten := by
       intro m
       induction m with
       | zero => intro x hx; exact hx
       | succ m ih => intro x hx; exact h3 _ (ih x hx)
     rw [List.flatten_append]
     simp only [List.flatten_cons, List.flatten_nil, List.append_nil]
     refine ⟨List.nodup_append.2 ⟨h1, orb_nodup hp hk0 hk1 hd, ?_⟩, ?_, ?_⟩
     · intro x hx y hy e
       subst e
       obtain ⟨j, hj, rfl⟩ := (hmem _).1 hy
       have := hcl (d - j) _ hx
       rw [← itP_add, show d - j + j = d by omega, hd.back] at this
       exact hnot this
     · intro x hx
       rcases List.mem_append.1 hx with h | h
       · exact h2 x h
       · obtain ⟨j, hj, rfl⟩ := (hmem _).1 h
         exact itP_rng hp hk0 hk1 j
     · intro x hx
       rcases List.mem_append.1 hx with h | h
       · exact List.mem_append_left _ (h3 x h)
       · obtain ⟨j, hj, rfl⟩ := (hmem _).1 h
         refine List.mem_append_right _ ((hmem _).2 ?_)
         by_cases e : j + 1 = d
         · exact ⟨0, hd.pos, by have := hd.back; rw [← e] at this; exact this.symm⟩
         · exact ⟨j + 1, by omega, rfl⟩

theorem cycK_len (p : List Int) : ∀ k, (cycK p k).length ≤ k
 | 0 => by simp [cycK]
 | k + 1 => by have := cycK_len p k; rw [cycK]; split <;> simp <;> omega
theorem cycK_sum {p : List Int} (hp : IsP p) {k : Nat} (hk : k ≤ p.length) : ((cycK p k).map List.length).sum ≤ p.length := by
 obtain ⟨h1, h2, _⟩ := cycK_ok hp k hk
 rw [← List.length_flatten]
 exact nodup_le p.length _ h1 h2
theorem cycK_pos {p : List Int} (hp : IsP p) : ∀ {k : Nat}, k ≤ p.length → ∀ l ∈ cycK p k, 0 < l.length
 | 0, _, l, h => by simp [cycK] at h
 | k + 1, hk, l, h => by
   rw [cycK] at h
   split at h
   · exact cycK_pos hp (by omega) l h
   · rcases List.mem_append.1 h with h | h
     · exact cycK_pos hp (by omega) l h
     · obtain ⟨d, hd⟩ := ord_ex hp (i := (k : Int)) (by omega) (by omega)
       simp at h
       rw [h, orb_len hd]; exact hd.pos

/-- the least common multiple, as it is computed. -/
def lcmF (o n : Nat) : Nat := o / Nat.gcd o n * n
def perF (ls : List Nat) : Nat := ls.foldl lcmF 1
theorem perF_snoc (ls : List Nat) (n : Nat) : perF (ls ++ [n]) = lcmF (perF ls) n := by simp [perF]
theorem cube_le : ∀ k : Nat, k ^ 3 ≤ 3 ^ k
 | 0 => by decide
 | 1 => by decide
 | 2 => by decide
 | 3 => by decide
 | k + 4 => by
   have ih := cube_le (k + 3)
   have e : 3 ^ (k + 4) = 3 * 3 ^ (k + 3) := by rw [show k + 4 = (k + 3) + 1 by omega, Nat.pow_succ]; omega
   rw [e]
   refine Nat.le_trans ?_ (Nat.mul_le_mul_left 3 ih)
   have h := Nat.pow_le_pow_left (show 3 * (k + 4) ≤ 4 * (k + 3) by omega) 3
   rw [Nat.mul_pow, Nat.mul_pow] at h
   omega
theorem lcmF_le (o n : Nat) : lcmF o n ≤ o * n := Nat.mul_le_mul_right n (Nat.div_le_self _ _)
theorem perGo_le : ∀ (ls : List Nat) (o s : Nat), o ^ 3 ≤ 3 ^ s → (ls.foldl lcmF o) ^ 3 ≤ 3 ^ (s + ls.sum)
 | [], o, s, h => by simpa using h
 | n :: r, o, s, h => by
   have h2 : (lcmF o n) ^ 3 ≤ 3 ^ (s + n) := by
     refine Nat.le_trans (Nat.pow_le_pow_left (lcmF_le o n) 3) ?_
     rw [Nat.mul_pow, Nat.pow_add]
     exact Nat.mul_le_mul h (cube_le n)
   have := perGo_le r (lcmF o n) (s + n) h2
   simpa [Nat.add_assoc] using this
theorem perF_cube (ls : List Nat) : (perF ls) ^ 3 ≤ 3 ^ ls.sum := by
 have := perGo_le ls 1 0 (by decide)
 simpa [perF] using this
theorem perF_lt (ls : List Nat) (h : ls.sum ≤ 64) : perF ls < 34359738368 := by
 have h1 := perF_cube ls
 have h2 : 3 ^ ls.sum ≤ 3 ^ 64 := Nat.pow_le_pow_right (by decide) h
 rcases Nat.lt_or_ge (perF ls) 34359738368 with h3 | h3
 ·exact h3
 ·have h4 := Nat.pow_le_pow_left h3 3
  have h5 : (34359738368 : Nat) ^ 3 > 3 ^ 64 := by decide
  omega
theorem lcmF_pos {o n : Nat} (ho : 0 < o) (hn : 0 < n) : 0 < lcmF o n := by
 unfold lcmF
 have hg : 0 < Nat.gcd o n := Nat.gcd_pos_of_pos_left _ ho
 have := Nat.div_pos (Nat.le_of_dvd ho (Nat.gcd_dvd_left o n)) hg
 exact Nat.mul_pos this hn
theorem perF_pos : ∀ (ls : List Nat) (o : Nat), 0 < o → (∀ n ∈ ls, 0 < n) → 0 < ls.foldl lcmF o
 | [], o, h, _ => h
 | n :: r, o, h, hr => perF_pos r _ (lcmF_pos h (hr n (by simp))) (fun m hm => hr m (by simp [hm]))
def periodN (p : List Int) : Nat := perF ((cycK p p.length).map List.length)
end Go.Proofs.YtbchpkmcpplidaaGreatDoor

namespace Go.Proofs.YtbchpkmcpplidaaGreatDoor
open Go.RowKit
set_option maxHeartbeats 1000000
set_option maxRecDepth 100000

/-- the first m numbers of a list that goes round and round. -/
def cyc (l : List Int) (m : Nat) : List Int := (List.range m).map fun j => l.getD (j % l.length) 0
theorem cyc_len (l : List Int) (m : Nat) : (cyc l m).length = m := by simp [cyc]
theorem cyc_take (l : List Int) {m k : Nat} (h : k ≤ m) : (cyc l m).take k = cyc l k := by
 unfold cyc; rw [← List.map_take, List.take_range, Nat.min_eq_left h]
/-- what is laid so far: a block of N numbers of which the first m are those of cyc. -/
def Laid (w : World) (g N m : Nat) (l : List Int) : Prop :=
 ∃ cur : List Value, w.heap[g]? = some (.cells cur.toArray 3 (0, 0)) ∧ cur.length = N ∧ cur.take m = (cyc l m).map cInt ∧ m ≤ N
theorem Laid.own {w : World} {g N : Nat} {l : List Int} {B : Nat} (h : Laid w g N N l) (hB : B ≤ g) (hN : N ≤ 1048576) : OwnI B w (.slice (some ⟨g, 0, none⟩) N N) (cyc l N) := by
 obtain ⟨cur, h1, h2, h3, _⟩ := h
 have e : ((cyc l N).flatMap fun x => (cInt x).cells.toList) = (cyc l N).map cInt := by
  generalize cyc l N = L
  induction L with
  | nil => rfl
  | cons x r ih => rw [List.flatMap_cons, ih]; rfl
 refine ⟨cIntS, ?_⟩
 rw [cyc_len, e, ← h3]
 refine ⟨by simp [h2], .inr ⟨g, N, cur.toArray, rfl, hB, h1, Nat.le_refl _, by unfold maxLen; omega, by simp [h2], by simp⟩⟩
theorem Laid.cell {w : World} {g N m : Nat} {l : List Int} (h : Laid w g N m l) (j k : Nat) (hk : k ≤ m) (v : Value) (hv : ((cyc l k).map cInt)[j]? = some v) : w.cell? ((⟨g, 0, none⟩ : Addr).add j) = some v := by
 obtain ⟨cur, h1, h2, h3, h4⟩ := h
 rw [Addr.add_z, Nat.zero_add, cell_of_row _ _ _ _ _ _ h1]
 have hj : j < k := by
  have := (List.getElem?_eq_some_iff.1 hv).1
  simpa [cyc] using this
 rw [← cyc_take l hk, List.map_take, ← h3] at hv
 rw [List.getElem?_take, List.getElem?_take] at hv
 rw [if_pos hj, if_pos (by omega)] at hv
 simpa using hv

end Go.Proofs.YtbchpkmcpplidaaGreatDoor
