/- Contracts and plain facts that the claim uses (Lib3 ItA TpF MaT MaV MaY MbT MbJ). Conditions: as each one states. -/
import Derived.Shelf.Strings.Trim
import Derived.Shelf.Strings.SlTrimAscii
import Derived.Shelf.Strings.Repeat
import Derived.Shelf.Strings.OnBuilder
import Derived.Shelf.Strconv.Itoa1
import Derived.Shelf.Strconv.Itoa3
import Derived.Shelf.LaysM
import Derived.Ground.Names2Prog
import Derived.Test.YtndmeaoidihikaaGreatDoorProg
import Derived.Shelf.Strconv.ErrVarAll
import Derived.Shelf.Strconv.AtoiAll
import Derived.Shelf.Strings.Cut
import Derived.Shelf.Strings.Split
import Derived.Shelf.Strings.SplitShaped
import Derived.WalkKit
import Derived.WalkSpells
import Derived.Maps.AppendAt
import Derived.Deep.Quiet
import Derived.Maps.Own
import Derived.Maps.OwnSet
import Derived.Maps.Views
import Derived.WalkLawsBesides
import Derived.Laws.EntriesVeiled
import Derived.Deep.QuietTactic
import Derived.BigQuiet
import Derived.Lib.OthersKept
import Derived.Deep.RegionHeld3
import Derived.Deep.AppendLies
import Derived.Deep.RegionHeldLaw
import Derived.Deep.RegionLaw
import Derived.Lib.ItoaLen
import Derived.Lib.ItoaMem
import Derived.Lib.AppendIntMem
import Derived.Lib.SmallJoins
import Derived.LaidSub
import Derived.Lib.LaidTab
import Derived.RangeFuncNested
import Derived.RangeFuncBound
import Derived.RangeFuncCalls
import Derived.RangeFuncLeaves
import Derived.RangeFuncFrom
import Derived.Shelf.Abstract
import Derived.Shelf.RegionOpen
import Derived.OwnWalkIn
import Derived.TacticsInMore
import Derived.LoopNIn
import Derived.LoopIn
import Derived.Deep.LoopGhost
import Derived.Laws.CopyOwn
import Derived.IntWalk
import Derived.Sort.LoopGhostIn
import Derived.StillTail
import Derived.Laws.Tables
import Derived.BigRegion
import Derived.ChangeAlike
import Derived.Shelf.Bits.Mul64
import Derived.Maps.RangeWalk
import Derived.Lib.Split
import Derived.Lib.AtoiAll
import Derived.Lib.AtoiErrMem
import Derived.Maps.Ext
import Derived.Stop.LaidErr
import Derived.ReadAgain
import Derived.ChangeSlices
import Derived.OpenShut
import Derived.ProofKit
import Derived.Deep.DeepHandedRow
import Derived.Deep.SlicePairs
import Derived.Test.YtndmeaoidihikaaGreatDoorXz01
import Derived.Test.YtndmeaoidihikaaGreatDoorXz02
import Derived.Test.YtndmeaoidihikaaGreatDoorXz03
import Derived.Test.YtndmeaoidihikaaGreatDoorXz04
import Derived.Test.YtndmeaoidihikaaGreatDoorXz05
import Derived.Test.YtndmeaoidihikaaGreatDoorXz06
import Derived.Test.YtndmeaoidihikaaGreatDoorXz07
import Derived.Test.YtndmeaoidihikaaGreatDoorXz08
set_option linter.all false

namespace Go.Proofs
open Go.Shelf
def Tryz.laysC172_ren : Go.Shelf.Ren := ⟨fun | 172 => 116 | 244 => 145 | 245 => 146 | 247 => 173 | 279 => 174 | 280 => 175 | 281 => 176 | 282 => 177 | 287 => 198 | 316 => 199 | 171 => 79 | 205 => 200 | 321 => 217 | 322 => 218 | 243 => 114 | 246 => 141 | 283 => 165 | 284 => 166 | 285 => 167 | 286 => 168 | 129 => 189 | 317 => 188 | 318 => 190 | 319 => 191 | 320 => 192 | 337 => 213 | 338 => 214 | n => n, fun | 9 => 9 | 3 => 3 | 75 => 156 | 76 => 157 | 4 => 4 | 5 => 5 | 167 => 206 | 37 => 151 | 0 => 0 | 85 => 207 | 2 => 2 | 168 => 209 | 53 => 186 | 175 => 226 | 46 => 214 | 210 => 230 | 127 => 179 | 145 => 248 | 143 => 246 | 21 => 21 | 171 => 198 | 173 => 201 | 212 => 222 | 51 => 223 | 20 => 20 | 213 => 224 | 232 => 250 | 233 => 251 | 80 => 159 | n => n, fun | 15 => 2 | 16 => 3 | 17 => 1 | 18 => 8 | 19 => 9 | n => n⟩
theorem Tryz.laysC172 : Go.Proofs.LaysC.n172 Tryz.prog Tryz.laysC172_ren := {
 mixed := by kernel_rfl
 f129 := Tryz.func189.trans (congrArg some (by kernel_rfl))
 f171 := Tryz.func79.trans (congrArg some (by kernel_rfl))
 f172 := Tryz.func116.trans (congrArg some (by kernel_rfl))
 f205 := Tryz.func200.trans (congrArg some (by kernel_rfl))
 f243 := Tryz.func114.trans (congrArg some (by kernel_rfl))
 f244 := Tryz.func145.trans (congrArg some (by kernel_rfl))
 f245 := Tryz.func146.trans (congrArg some (by kernel_rfl))
 f246 := Tryz.func141.trans (congrArg some (by kernel_rfl))
 f247 := Tryz.func173.trans (congrArg some (by kernel_rfl))
 f279 := Tryz.func174.trans (congrArg some (by kernel_rfl))
 f280 := Tryz.func175.trans (congrArg some (by kernel_rfl))
 f281 := Tryz.func176.trans (congrArg some (by kernel_rfl))
 f282 := Tryz.func177.trans (congrArg some (by kernel_rfl))
 f283 := Tryz.func165.trans (congrArg some (by kernel_rfl))
 f284 := Tryz.func166.trans (congrArg some (by kernel_rfl))
 f285 := Tryz.func167.trans (congrArg some (by kernel_rfl))
 f286 := Tryz.func168.trans (congrArg some (by kernel_rfl))
 f287 := Tryz.func198.trans (congrArg some (by kernel_rfl))
 f316 := Tryz.func199.trans (congrArg some (by kernel_rfl))
 f317 := Tryz.func188.trans (congrArg some (by kernel_rfl))
 f318 := Tryz.func190.trans (congrArg some (by kernel_rfl))
 f319 := Tryz.func191.trans (congrArg some (by kernel_rfl))
 f320 := Tryz.func192.trans (congrArg some (by kernel_rfl))
 f321 := Tryz.func217.trans (congrArg some (by kernel_rfl))
 f322 := Tryz.func218.trans (congrArg some (by kernel_rfl))
 f337 := Tryz.func213.trans (congrArg some (by kernel_rfl))
 f338 := Tryz.func214.trans (congrArg some (by kernel_rfl))
 t0 := Tryz.underlying0
 a0 := Tryz.isAgg0
 z0 := Tryz.sizeOf0
 v0 := Tryz.zeroValue0
 t2 := Tryz.underlying2
 a2 := Tryz.isAgg2
 z2 := Tryz.sizeOf2
 v2 := Tryz.zeroValue2
 t3 := Tryz.underlying3
 a3 := Tryz.isAgg3
 z3 := Tryz.sizeOf3
 v3 := Tryz.zeroValue3
 t4 := Tryz.underlying4
 a4 := Tryz.isAgg4
 z4 := Tryz.sizeOf4
 v4 := Tryz.zeroValue4
 t5 := Tryz.underlying5
 a5 := Tryz.isAgg5
 z5 := Tryz.sizeOf5
 v5 := Tryz.zeroValue5
 t9 := Tryz.underlying9
 a9 := Tryz.isAgg9
 z9 := Tryz.sizeOf9
 v9 := Tryz.zeroValue9
 t20 := Tryz.underlying20
 a20 := Tryz.isAgg20
 z20 := Tryz.sizeOf20
 v20 := Tryz.zeroValue20
 t21 := Tryz.underlying21
 a21 := Tryz.isAgg21
 z21 := Tryz.sizeOf21
 v21 := Tryz.zeroValue21
 t37 := Tryz.underlying151
 a37 := Tryz.isAgg151
 z37 := Tryz.sizeOf151
 v37 := Tryz.zeroValue151
 t46 := Tryz.underlying214
 a46 := Tryz.isAgg214
 z46 := Tryz.sizeOf214
 v46 := Tryz.zeroValue214
 t51 := Tryz.underlying223
 a51 := Tryz.isAgg223
 z51 := Tryz.sizeOf223
 v51 := Tryz.zeroValue223
 t53 := Tryz.underlying186
 a53 := Tryz.isAgg186
 z53 := Tryz.sizeOf186
 v53 := Tryz.zeroValue186
 t75 := Tryz.underlying156
 a75 := Tryz.isAgg156
 z75 := Tryz.sizeOf156
 v75 := Tryz.zeroValue156
 t76 := Tryz.underlying157
 a76 := Tryz.isAgg157
 z76 := Tryz.sizeOf157
 v76 := Tryz.zeroValue157
 t85 := Tryz.underlying207
 a85 := Tryz.isAgg207
 z85 := Tryz.sizeOf207
 v85 := Tryz.zeroValue207
 t127 := Tryz.underlying179
 a127 := Tryz.isAgg179
 z127 := Tryz.sizeOf179
 v127 := Tryz.zeroValue179
 t143 := Tryz.underlying246
 a143 := Tryz.isAgg246
 z143 := Tryz.sizeOf246
 v143 := Tryz.zeroValue246
 t145 := Tryz.underlying248
 a145 := Tryz.isAgg248
 z145 := Tryz.sizeOf248
 v145 := Tryz.zeroValue248
 t167 := Tryz.underlying206
 a167 := Tryz.isAgg206
 z167 := Tryz.sizeOf206
 v167 := Tryz.zeroValue206
 t168 := Tryz.underlying209
 a168 := Tryz.isAgg209
 z168 := Tryz.sizeOf209
 v168 := Tryz.zeroValue209
 t171 := Tryz.underlying198
 a171 := Tryz.isAgg198
 z171 := Tryz.sizeOf198
 v171 := Tryz.zeroValue198
 t173 := Tryz.underlying201
 a173 := Tryz.isAgg201
 z173 := Tryz.sizeOf201
 v173 := Tryz.zeroValue201
 t175 := Tryz.underlying226
 a175 := Tryz.isAgg226
 z175 := Tryz.sizeOf226
 v175 := Tryz.zeroValue226
 t210 := Tryz.underlying230
 a210 := Tryz.isAgg230
 z210 := Tryz.sizeOf230
 v210 := Tryz.zeroValue230
 t212 := Tryz.underlying222
 a212 := Tryz.isAgg222
 z212 := Tryz.sizeOf222
 v212 := Tryz.zeroValue222
 t213 := Tryz.underlying224
 a213 := Tryz.isAgg224
 z213 := Tryz.sizeOf224
 t232 := Tryz.underlying250
 a232 := Tryz.isAgg250
 z232 := Tryz.sizeOf250
 v232 := Tryz.zeroValue250
 t233 := Tryz.underlying251
 a233 := Tryz.isAgg251
 z233 := Tryz.sizeOf251
 v233 := Tryz.zeroValue251
 g15 := by kernel_rfl
 g16 := by kernel_rfl
 g17 := by kernel_rfl
 g18 := by kernel_rfl
 g19 := by kernel_rfl
 t80 := Tryz.underlying159
 a80 := Tryz.isAgg159
 z80 := Tryz.sizeOf159
 v80 := Tryz.zeroValue159
 i0 := by kernel_rfl
 i2 := by kernel_rfl
 i3 := by kernel_rfl
 i4 := by kernel_rfl
 i5 := by kernel_rfl
 i9 := by kernel_rfl
 i20 := by kernel_rfl
 i21 := by kernel_rfl
 i37 := by kernel_rfl
 i46 := by kernel_rfl
 i51 := by kernel_rfl
 i53 := by kernel_rfl
 i75 := by kernel_rfl
 i76 := by kernel_rfl
 i80 := by kernel_rfl
 i85 := by kernel_rfl
 i127 := by kernel_rfl
 i143 := by kernel_rfl
 i145 := by kernel_rfl
 i167 := by kernel_rfl
 i168 := by kernel_rfl
 i171 := by kernel_rfl
 i173 := by kernel_rfl
 i175 := by kernel_rfl
 i210 := by kernel_rfl
 i212 := by kernel_rfl
 i232 := by kernel_rfl
 i233 := by kernel_rfl
 m15 := by kernel_rfl
 m16 := by kernel_rfl
 m17 := by kernel_rfl
 m18 := by kernel_rfl
 m19 := by kernel_rfl
 c0 := by kernel_rfl
 c2 := by kernel_rfl
 c3 := by kernel_rfl
 c4 := by kernel_rfl
 c5 := by kernel_rfl
 c9 := by kernel_rfl
 c20 := by kernel_rfl
 c21 := by kernel_rfl
 c37 := by kernel_rfl
 c46 := by kernel_rfl
 c51 := by kernel_rfl
 c53 := by kernel_rfl
 c75 := by kernel_rfl
 c76 := by kernel_rfl
 c80 := by kernel_rfl
 c85 := by kernel_rfl
 c127 := by kernel_rfl
 c143 := by kernel_rfl
 c145 := by kernel_rfl
 c167 := by kernel_rfl
 c168 := by kernel_rfl
 c171 := by kernel_rfl
 c173 := by kernel_rfl
 c175 := by kernel_rfl
 c210 := by kernel_rfl
 c212 := by kernel_rfl
 c213 := by kernel_rfl
 c232 := by kernel_rfl
 c233 := by kernel_rfl }
open Go.RowKit in
/-- strconv.Atoi, AT EVERY STRING THAT SPELLS AN int ('Lib.atoiAll .. = .ok v'; of whatever length: leading zeros count): v, AND NO ERROR. The world: as it was, or with the one new row that '[]byte(..)' lays. (LAID: no walk: one application.) -/
theorem Tryz.strconv_Atoi_ok (s : ByteArray) (hmax : s.size ≤ 9223372036854775806) (v : Int) (h : Lib.atoiAll s.data.toList = .ok v) (w : World) :
  Calls Tryz.prog 116 #[.string s] w fun e w' => e = .returned (.tuple #[.int .i64 v, .nilIface]) ∧ (w' = w ∨ ∃ t, w' = Lib.bytesWorld w 5 t) := Any.strconv_Atoi_ok Tryz.laysC172 s hmax v h w
open Go.RowKit in
theorem Tryz.strconv_Atoi_syntax_var (s : ByteArray) (hlim : s.size ≤ 281474976710656) (h : Lib.atoiAll s.data.toList = Lib.atoiAll []) (tp : TypeId) (p : Value) (w : World) (hvar : w.var? Tryz.prog "strconv.ErrSyntax" = some #[.iface tp p]) :
  Calls Tryz.prog 116 #[.string s] w fun e w' => ∃ N, e = .returned (.tuple #[.int .i64 0, .iface 209 (.pointer (some ⟨N, 0, none⟩))]) ∧ w.heap.size ≤ N ∧ w'.heap[N]? = some (.cells #[.string ⟨#[65, 116, 111, 105]⟩, .string s, .iface tp p] 230 (0, 0)) ∧ Below w.heap.size w w' := Any.strconv_Atoi_syntax_var Tryz.laysC172 s hlim h tp p w hvar
open Go.RowKit in
theorem Tryz.strconv_Atoi_range_var (s : ByteArray) (hlim : s.size ≤ 281474976710656) (h : Lib.atoiAll s.data.toList = .range) (tp : TypeId) (p : Value) (w : World) (hvar : w.var? Tryz.prog "strconv.ErrRange" = some #[.iface tp p]) :
  Calls Tryz.prog 116 #[.string s] w fun e w' => ∃ N, e = .returned (.tuple #[.int .i64 (Lib.atoiSat s.data.toList), .iface 209 (.pointer (some ⟨N, 0, none⟩))]) ∧ w.heap.size ≤ N ∧ w'.heap[N]? = some (.cells #[.string ⟨#[65, 116, 111, 105]⟩, .string s, .iface tp p] 230 (0, 0)) ∧ Below w.heap.size w w' := Any.strconv_Atoi_range_var Tryz.laysC172 s hlim h tp p w hvar
def Tryz.lays146_ren : Go.Shelf.Ren := ⟨fun | 146 => 80 | 221 => 115 | 268 => 142 | 138 => 143 | 143 => 144 | 195 => 169 | 197 => 170 | 218 => 171 | 219 => 172 | 260 => 193 | 217 => 194 | 225 => 195 | 224 => 196 | 267 => 197 | 266 => 215 | 314 => 216 | n => n, fun | 9 => 9 | 31 => 111 | 3 => 3 | 4 => 4 | 0 => 0 | 105 => 203 | 21 => 21 | 5 => 5 | 46 => 214 | 119 => 239 | 139 => 242 | 138 => 241 | 146 => 243 | 51 => 223 | n => n, fun | 1 => 0 | 3 => 4 | 4 => 5 | n => n⟩
theorem Tryz.lays146 : Go.Proofs.Lays.n146 Tryz.prog Tryz.lays146_ren := {
 mixed := by kernel_rfl
 f138 := Tryz.func143.trans (congrArg some (by kernel_rfl))
 f143 := Tryz.func144.trans (congrArg some (by kernel_rfl))
 f146 := Tryz.func80.trans (congrArg some (by kernel_rfl))
 f195 := Tryz.func169.trans (congrArg some (by kernel_rfl))
 f197 := Tryz.func170.trans (congrArg some (by kernel_rfl))
 f217 := Tryz.func194.trans (congrArg some (by kernel_rfl))
 f218 := Tryz.func171.trans (congrArg some (by kernel_rfl))
 f219 := Tryz.func172.trans (congrArg some (by kernel_rfl))
 f221 := Tryz.func115.trans (congrArg some (by kernel_rfl))
 f224 := Tryz.func196.trans (congrArg some (by kernel_rfl))
 f225 := Tryz.func195.trans (congrArg some (by kernel_rfl))
 f260 := Tryz.func193.trans (congrArg some (by kernel_rfl))
 f266 := Tryz.func215.trans (congrArg some (by kernel_rfl))
 f267 := Tryz.func197.trans (congrArg some (by kernel_rfl))
 f268 := Tryz.func142.trans (congrArg some (by kernel_rfl))
 f314 := Tryz.func216.trans (congrArg some (by kernel_rfl))
 t0 := Tryz.underlying0
 a0 := Tryz.isAgg0
 z0 := Tryz.sizeOf0
 v0 := Tryz.zeroValue0
 t3 := Tryz.underlying3
 a3 := Tryz.isAgg3
 z3 := Tryz.sizeOf3
 v3 := Tryz.zeroValue3
 t4 := Tryz.underlying4
 a4 := Tryz.isAgg4
 z4 := Tryz.sizeOf4
 v4 := Tryz.zeroValue4
 t5 := Tryz.underlying5
 a5 := Tryz.isAgg5
 z5 := Tryz.sizeOf5
 v5 := Tryz.zeroValue5
 t9 := Tryz.underlying9
 a9 := Tryz.isAgg9
 z9 := Tryz.sizeOf9
 v9 := Tryz.zeroValue9
 t21 := Tryz.underlying21
 a21 := Tryz.isAgg21
 z21 := Tryz.sizeOf21
 v21 := Tryz.zeroValue21
 t31 := Tryz.underlying111
 a31 := Tryz.isAgg111
 z31 := Tryz.sizeOf111
 v31 := Tryz.zeroValue111
 t46 := Tryz.underlying214
 a46 := Tryz.isAgg214
 z46 := Tryz.sizeOf214
 v46 := Tryz.zeroValue214
 t51 := Tryz.underlying223
 a51 := Tryz.isAgg223
 z51 := Tryz.sizeOf223
 v51 := Tryz.zeroValue223
 t105 := Tryz.underlying203
 a105 := Tryz.isAgg203
 z105 := Tryz.sizeOf203
 v105 := Tryz.zeroValue203
 t119 := Tryz.underlying239
 a119 := Tryz.isAgg239
 z119 := Tryz.sizeOf239
 t138 := Tryz.underlying241
 a138 := Tryz.isAgg241
 z138 := Tryz.sizeOf241
 v138 := Tryz.zeroValue241
 t139 := Tryz.underlying242
 a139 := Tryz.isAgg242
 z139 := Tryz.sizeOf242
 v139 := Tryz.zeroValue242
 t146 := Tryz.underlying243
 a146 := Tryz.isAgg243
 z146 := Tryz.sizeOf243
 v146 := Tryz.zeroValue243
 g1 := by kernel_rfl
 g3 := by kernel_rfl
 g4 := by kernel_rfl }
open Go.RowKit Go.Lib in
/-- strings.Split. (LAID: no walk: one application.) -/
theorem Tryz.strings_Split (s sep : ByteArray) (m : Int) (w : World) (hs : s.size < 4294967281) (hm : w.cell? ⟨0, 0, none⟩ = some (.int .i64 m)) (h1 : 1 ≤ sep.size) :
  Calls Tryz.prog 80 #[.string s, .string sep] w fun e w' =>
   e = .returned (.slice (some ⟨w.heap.size, 0, none⟩) (Lib.countB s sep + 1) (Lib.countB s sep + 1)) ∧ w' = w.alloc (.cells ((Lib.splitB sep 0 (Lib.countB s sep) s).map Value.string).toArray 9) := Any.strings_Split Tryz.lays146 (by kernel_rfl) s sep m w hs hm h1
end Go.Proofs

namespace Go.Proofs.YtndmeaoidihikaaGreatDoor
open Go.RowKit
set_option maxRecDepth 100000

theorem gPow : Tryz.prog.globalNamed "internal/strconv.uint64pow10" = some 1 := by kernel_rfl
abbrev TabW (w : World) : Prop := Lib.TabIs Tryz.prog w "internal/strconv.uint64pow10" .u64 Lib.pow10Tab
theorem TabW.below {w w' : World} (h : TabW w) (hb : Below w.heap.size w w') : TabW w' := Joins.tab_stays gPow h hb (Nat.le_refl _)
theorem itoaOk_tab {w : World} (h : TabW w) (n : Int) (h0 : -9223372036854775808 ≤ n) (h1 : n ≤ 9223372036854775807) : ItoaOk w n := by
 intro w' hb
 refine (Tryz.strconv_Itoa n h0 h1 w' (h.below hb)).mono ?_
 rintro e w'' ⟨rfl, k, os, rfl⟩
 exact ⟨rfl, Lib.below_grow _ _ (Nat.le_refl _) _ _⟩
end Go.Proofs.YtndmeaoidihikaaGreatDoor

namespace Go.Proofs.YtndmeaoidihikaaGreatDoor
open Go.RowKit
set_option maxRecDepth 100000

/-- the pieces of a text between bytes, one piece having begun. -/
def splR (c : UInt8) : List UInt8 → List UInt8 → List (List UInt8)
 | cur, [] => [cur]
 | cur, b :: r => if b = c then cur :: splR c [] r else splR c (cur ++ [b]) r
def spl (c : UInt8) (l : List UInt8) : List (List UInt8) := splR c [] l
theorem splR_free (c : UInt8) : ∀ (l cur : List UInt8), c ∉ l → splR c cur l = [cur ++ l]
 | [], cur, _ => by simp [splR]
 | b :: r, cur, h => by
   rw [splR, if_neg (fun e => h (by simp [e])), splR_free c r _ (fun e => h (by simp [e]))]; simp
theorem splR_hit (c : UInt8) : ∀ (p cur r : List UInt8), c ∉ p → splR c cur (p ++ c :: r) = (cur ++ p) :: spl c r
 | [], cur, r, _ => by rw [List.nil_append, splR, if_pos rfl]; simp [spl]
 | b :: p, cur, r, h => by
   rw [List.cons_append, splR, if_neg (fun e => h (by simp [e])), splR_hit c p _ r (fun e => h (by simp [e]))]; simp
theorem spl_free {c : UInt8} {l : List UInt8} (h : c ∉ l) : spl c l = [l] := by rw [spl, splR_free c l [] h]; rfl
theorem spl_hit {c : UInt8} {p : List UInt8} (r : List UInt8) (h : c ∉ p) : spl c (p ++ c :: r) = p :: spl c r := by rw [spl, splR_hit c p [] r h]; rfl
theorem splR_len (c : UInt8) : ∀ (l cur : List UInt8), (splR c cur l).length ≤ l.length + 1
 | [], cur => by simp [splR]
 | b :: r, cur => by
   rw [splR]
   split
   · have := splR_len c r []; simp; omega
   · have := splR_len c r (cur ++ [b]); simp; omega
theorem cut_ex (c : UInt8) (l : List UInt8) : c ∉ l ∨ ∃ p r, l = p ++ c :: r ∧ c ∉ p := by
 by_cases h : c ∈ l
 ·obtain ⟨p, r, e, hp⟩ := List.eq_append_cons_of_mem h; exact .inr ⟨p, r, e, hp⟩
 ·exact .inl h
theorem index_free {c : UInt8} : ∀ {l : List UInt8}, c ∉ l → Lib.index l [c] = -1
 | [], _ => by simp [Lib.index]
 | b :: r, h => by
   have hb : ([c] : List UInt8).isPrefixOf (b :: r) = false := by
     simp [List.isPrefixOf]; intro e; exact h (by simp [e])
   unfold Lib.index
   rw [hb, index_free (fun e => h (by simp [e]))]; rfl
theorem index_hit {c : UInt8} (r : List UInt8) : ∀ {p : List UInt8}, c ∉ p → Lib.index (p ++ c :: r) [c] = p.length
 | [], _ => by simp [Lib.index, List.isPrefixOf]
 | b :: p, h => by
   have hb : ([c] : List UInt8).isPrefixOf (b :: (p ++ c :: r)) = false := by
     simp [List.isPrefixOf]; intro e; exact h (by simp [e])
   rw [List.cons_append]
   unfold Lib.index
   rw [hb, index_hit r (fun e => h (by simp [e]))]
   have : ((p.length : Int) == -1) = false := by simp
   simp [this]
theorem splitK_spl {c : UInt8} : ∀ (k : Nat) (l : List UInt8), Lib.count l [c] ≤ k → Lib.splitK [c] 0 k l = spl c l
 | 0, l, h => by
   rcases cut_ex c l with hf | ⟨p, r, rfl, hp⟩
   · rw [spl_free hf]; rfl
   · have := Lib.count_hit (by simp) (index_hit r hp); omega
 | k + 1, l, h => by
   unfold Lib.splitK
   rcases cut_ex c l with hf | ⟨p, r, rfl, hp⟩
   · rw [index_free hf, if_pos (by rfl), spl_free hf]
   · have hc := Lib.count_hit (by simp) (index_hit r hp)
     rw [index_hit r hp, if_neg (by simp), spl_hit r hp]
     have e1 : (p ++ c :: r).drop (p.length + [c].length) = r := by simp
     have e2 : (p ++ c :: r).take (p.length + 0) = p := by simp
     rw [e1] at hc
     rw [Int.toNat_natCast, e1, e2, splitK_spl k r (by omega)]
theorem splitB_spl (c : UInt8) (l : List UInt8) : Lib.splitB ⟨#[c]⟩ 0 (Lib.countB (bT l) ⟨#[c]⟩) (bT l) = (spl c l).map bT := by
 have h := Lib.splitB_data ⟨#[c]⟩ 0 (Lib.countB (bT l) ⟨#[c]⟩) (bT l)
 have e : Lib.splitK [c] 0 (Lib.countB (bT l) ⟨#[c]⟩) l = spl c l := splitK_spl _ l (Nat.le_refl _)
 have h2 : (Lib.splitB ⟨#[c]⟩ 0 (Lib.countB (bT l) ⟨#[c]⟩) (bT l)).map (·.data.toList) = spl c l := h.trans e
 rw [← h2, List.map_map]
 symm
 exact (List.map_congr_left fun x _ => rfl).trans (List.map_id _)
def isDig (b : UInt8) : Prop := 48 ≤ b.toNat ∧ b.toNat ≤ 57
instance (b : UInt8) : Decidable (isDig b) := inferInstanceAs (Decidable (_ ∧ _))
/-- a decimal number without zeros ahead. -/
def canon (l : List UInt8) : Prop := l ≠ [] ∧ (1 < l.length → l.head? ≠ some 48) ∧ ∀ b ∈ l, isDig b
instance (l : List UInt8) : Decidable (canon l) := inferInstanceAs (Decidable (_ ∧ _ ∧ _))
theorem u8_eq {b : UInt8} {n : Nat} (h : b.toNat = n) : b = UInt8.ofNat n := by rw [← h]; simp
theorem snoc_ind {α : Type} {P : List α → Prop} (h0 : P []) (h1 : ∀ m d, P m → P (m ++ [d])) (l : List α) : P l := by
 have h : ∀ r : List α, P r.reverse := by
  intro r
  induction r with
  | nil => exact h0
  | cons a r ih => rw [List.reverse_cons]; exact h1 _ _ ih
 simpa using h l.reverse
theorem head_app {m : List UInt8} (r : List UInt8) (h : m ≠ []) : (m ++ r).head? = m.head? := by
 cases m with
 | nil => exact absurd rfl h
 | cons a t => rfl
theorem valL_first : ∀ {l : List UInt8}, l ≠ [] → l.head? ≠ some 48 → (∀ b ∈ l, isDig b) → 0 < valL l := by
 intro l
 refine snoc_ind (P := fun l => l ≠ [] → l.head? ≠ some 48 → (∀ b ∈ l, isDig b) → 0 < valL l) ?_ ?_ l
 ·intro h1; exact absurd rfl h1
 ·intro m d ih h1 h2 h3
  rw [valL_snoc]
  by_cases hm : m = []
  ·subst hm
   have hd := h3 d (by simp)
   unfold isDig at hd
   have : d ≠ 48 := fun e => h2 (by simp [e])
   have : d.toNat ≠ 48 := fun e => this (by have := u8_eq e; simpa using this)
   omega
  ·have := ih hm (by rw [head_app _ hm] at h2; exact h2) (fun b hb => h3 b (by simp [hb]))
   omega
theorem canon_dec : ∀ {l : List UInt8}, canon l → Lib.decDigits (valL l) = l := by
 intro l
 refine snoc_ind (P := fun l => canon l → Lib.decDigits (valL l) = l) ?_ ?_ l
 ·intro h; exact absurd rfl h.1
 ·rintro m d ih ⟨h1, h2, h3⟩
  have hd := h3 d (by simp)
  unfold isDig at hd
  have ed : UInt8.ofNat (48 + (d.toNat - 48)) = d := by rw [show 48 + (d.toNat - 48) = d.toNat by omega]; simp
  rw [valL_snoc]
  by_cases hm : m = []
  ·subst hm
   rw [show valL ([] : List UInt8) = 0 from rfl, decD_small (by omega), Nat.mul_zero, Nat.zero_add, ed]; rfl
  ·have hl : 0 < m.length := List.length_pos_iff.2 hm
   have hh : m.head? ≠ some 48 := by
    have := h2 (by simp; omega)
    rw [head_app _ hm] at this; exact this
   have hv := valL_first hm hh (fun b hb => h3 b (by simp [hb]))
   rw [decD_big (by omega), show (10 * valL m + (d.toNat - 48)) / 10 = valL m by omega, show (10 * valL m + (d.toNat - 48)) % 10 = d.toNat - 48 by omega, ed, ih ⟨hm, fun _ => hh, fun b hb => h3 b (by simp [hb])⟩]
theorem dec_canon (u : Nat) : canon (Lib.decDigits u) := by
 refine ⟨fun e => by have := decD_pos u; rw [e] at this; simp at this, fun h e => ?_, fun b hb => decD_dig u b hb⟩
 by_cases hu : 0 < u
 ·obtain ⟨b, r, e2, h1, h2⟩ := decD_first hu
  rw [e2] at e
  simp at e
  rw [e] at h1
  exact absurd h1 (by decide)
 ·have : u = 0 := by omega
  subst this
  rw [decD_small (by decide)] at h
  simp at h
/-- a number of at most 9 digits. -/
def intL (l : List UInt8) : Option Nat := if canon l ∧ l.length ≤ 9 then some (valL l) else none
theorem valL_lt9 {l : List UInt8} (h : ∀ b ∈ l, isDig b) (h9 : l.length ≤ 9) : valL l < 1000000000 := by
 have := valL_lt l (fun b hb => h b hb) l.length (Nat.le_refl _)
 rw [List.take_length] at this
 have h2 := Nat.pow_le_pow_right (n := 10) (by decide) h9
 have : (10 : Nat) ^ 9 = 1000000000 := by decide
 omega
theorem parseU {l : List UInt8} : ∀ (acc : Nat), (∀ b ∈ l, isDig b) → (acc + 1) * 10 ^ l.length ≤ 1000000000000000000 → Lib.parseUint10 acc l = .ok (l.foldl (fun n b => 10 * n + (b.toNat - 48)) acc) := by
 induction l with
 | nil => intro acc _ _; rfl
 | cons b r ih =>
  intro acc h hb
  have hd := h b (by simp)
  unfold isDig at hd
  rw [List.length_cons, Nat.pow_succ] at hb
  have hp : 0 < 10 ^ r.length := Nat.pos_of_ne_zero (by simp)
  have h1 : (acc + 1) * 10 ≤ (acc + 1) * (10 ^ r.length * 10) := Nat.mul_le_mul_left _ (by omega)
  rw [Lib.parseUint10, if_pos hd, if_neg (by omega), if_neg (by omega), List.foldl_cons, show 10 * acc + (b.toNat - 48) = acc * 10 + (b.toNat - 48) by omega]
  refine ih _ (fun b hb => h b (by simp [hb])) ?_
  have h2 : (acc * 10 + (b.toNat - 48) + 1) * 10 ^ r.length ≤ ((acc + 1) * 10) * 10 ^ r.length := Nat.mul_le_mul_right _ (by omega)
  have h3 : ((acc + 1) * 10) * 10 ^ r.length = (acc + 1) * (10 ^ r.length * 10) := by ac_rfl
  omega
theorem atoi_canon {l : List UInt8} (h : canon l) (h9 : l.length ≤ 9) : Lib.atoiAll l = .ok (valL l : Int) := by
 obtain ⟨h1, _, h3⟩ := h
 have hp := Nat.pow_le_pow_right (n := 10) (by decide) h9
 have h10 : (10 : Nat) ^ 9 = 1000000000 := by decide
 have hu := parseU (l := l) 0 h3 (by omega)
 have hv := valL_lt9 h3 h9
 cases l with
 | nil => exact absurd rfl h1
 | cons c r =>
  have hc := h3 c (by simp)
  unfold isDig at hc
  unfold Lib.atoiAll
  simp only
  rw [if_neg (by omega), Lib.parseMag, if_neg (by simp), hu]
  have ev : List.foldl (fun n b => 10 * n + (b.toNat - 48)) 0 (c :: r) = valL (c :: r) := rfl
  simp only [ev]
  have hc2 : ¬ c.toNat = 45 := by omega
  simp only [hc2, not_false_eq_true, true_and, false_and, if_false]
  rw [if_neg (by omega)]
/-- what the program's test of a number comes to. -/
theorem intL_some {l : List UInt8} {v : Int} (h : Lib.atoiAll l = .ok v) (h9 : l.length ≤ 9) (hi : itoaB v = bT l) (h0 : 0 ≤ v) : intL l = some v.toNat := by
 obtain ⟨u, rfl⟩ : ∃ u : Nat, v = u := ⟨v.toNat, by omega⟩
 rw [itoaB_bT] at hi
 have e : Lib.decDigits u = l := by
  have := congrArg (fun s : ByteArray => s.data.toList) hi
  simpa [bT] using this
 have hc := dec_canon u
 rw [e] at hc
 rw [intL, if_pos ⟨hc, h9⟩, ← e, valL_dec]; rfl
theorem intL_canon {l : List UInt8} {n : Nat} (h : intL l = some n) : canon l ∧ l.length ≤ 9 ∧ n = valL l ∧ itoaB (n : Int) = bT l ∧ Lib.atoiAll l = .ok (n : Int) ∧ n < 1000000000 := by
 unfold intL at h
 split at h
 ·rename_i hc
  cases h
  exact ⟨hc.1, hc.2, rfl, by rw [itoaB_bT, canon_dec hc.1], atoi_canon hc.1 hc.2, valL_lt9 hc.1.2.2 hc.2⟩
 ·cases h

def both (a b : Option Nat) : Option (Int × Int) := match a, b with | some x, some y => some (x, y) | _, _ => none
end Go.Proofs.YtndmeaoidihikaaGreatDoor

namespace Go.Proofs.YtndmeaoidihikaaGreatDoor
open Go.RowKit
set_option maxHeartbeats 4000000
set_option maxRecDepth 100000

/-- what the library reads of the world: a table, a number, two errors. -/
structure LibW (w : World) : Prop where
 tab : TabW w
 max : ∃ m, w.cell? ⟨0, 0, none⟩ = some (.int .i64 m)
 syn : ∃ tp p, w.var? Tryz.prog "strconv.ErrSyntax" = some #[.iface tp p]
 rng : ∃ tp p, w.var? Tryz.prog "strconv.ErrRange" = some #[.iface tp p]
theorem gSyn : Tryz.prog.globalNamed "strconv.ErrSyntax" = some 2 := by kernel_rfl
theorem gRng : Tryz.prog.globalNamed "strconv.ErrRange" = some 3 := by kernel_rfl
theorem LibW.below {w w' : World} (h : LibW w) (hb : Below w.heap.size w w') : LibW w' := by
 refine ⟨h.tab.below hb, ?_, ?_, ?_⟩
 ·obtain ⟨m, hm⟩ := h.max
  exact ⟨m, (hb.cell (World.block_lt_of_cell? w _ hm)).trans hm⟩
 ·obtain ⟨tp, p, hp⟩ := h.syn
  exact ⟨tp, p, Joins.var_stays gSyn hp hb (Nat.le_refl _)⟩
 ·obtain ⟨tp, p, hp⟩ := h.rng
  exact ⟨tp, p, Joins.var_stays gRng hp hb (Nat.le_refl _)⟩

theorem atoi_ok (l : List UInt8) (v : Int) (w : World) (hz : l.length ≤ 1048576) (h : Lib.atoiAll l = .ok v) :
  Calls Tryz.prog 116 #[.string (bT l)] w fun e w' => e = .returned (.tuple #[.int .i64 v, .nilIface]) ∧ Below w.heap.size w w' := by
 refine (Tryz.strconv_Atoi_ok (bT l) (by rw [bT_size]; omega) v h w).mono ?_
 rintro e w' ⟨rfl, hw⟩
 refine ⟨rfl, ?_⟩
 rcases hw with rfl | ⟨t, rfl⟩
 ·exact Below.refl _ _
 ·exact Lib.bytesWorld_below _ _ _
theorem atoi_no (l : List UInt8) (w : World) (hw : LibW w) (hz : l.length ≤ 1048576) (h : ∀ v, Lib.atoiAll l ≠ .ok v) :
  Calls Tryz.prog 116 #[.string (bT l)] w fun e w' => ∃ n t p, e = .returned (.tuple #[.int .i64 n, .iface t p]) ∧ Below w.heap.size w w' := by
 cases hA : Lib.atoiAll l
 ·rename_i v
  exact absurd hA (h v)
 ·obtain ⟨tp, p, hv⟩ := hw.syn
  refine (Tryz.strconv_Atoi_syntax_var (bT l) (by rw [bT_size]; omega) (hA.trans rfl) tp p w hv).mono ?_
  rintro e w' ⟨N, rfl, _, _, hb⟩
  exact ⟨_, _, _, rfl, hb⟩
 ·obtain ⟨tp, p, hv⟩ := hw.rng
  refine (Tryz.strconv_Atoi_range_var (bT l) (by rw [bT_size]; omega) hA tp p w hv).mono ?_
  rintro e w' ⟨N, rfl, _, _, hb⟩
  exact ⟨_, _, _, rfl, hb⟩
/-- a text's answer: the moves, the number of a word, the error. -/
def RetT (W : World) (R : List (Int × Int) × Int × Int) (r : Ending) (w' : World) : Prop :=
 ∃ a cap, r = .returned (.tuple #[.slice a R.1.length cap, .int .i64 R.2.1, .int .i64 R.2.2]) ∧ Pairs w' a cap R.1 ∧ Below W.heap.size W w'
theorem RetT.none {W w' : World} {R : List (Int × Int) × Int × Int} {r : Ending} {k e : Int} (hR : R = ([], k, e)) (h1 : r = .returned (.tuple #[.slice none 0 0, .int .i64 k, .int .i64 e])) (hb : Below W.heap.size W w') : RetT W R r w' := by
 subst hR; exact ⟨.none, 0, h1, pairs_nil _, hb⟩
theorem atD_mapT (L : List (List UInt8)) (k : Nat) (h : k < L.length) : atD ByteArray.empty (L.map bT) k = bT (atD [] L k) := by simp [atD, h]
theorem spl_sum : ∀ (c : UInt8) (l cur : List UInt8), ∀ x ∈ splR c cur l, x.length ≤ cur.length + l.length
 | c, [], cur, x, hx => by simp [splR] at hx; subst hx; simp
 | c, b :: r, cur, x, hx => by
   rw [splR] at hx
   split at hx
   · rcases List.mem_cons.1 hx with rfl | hx
     · simp
     · have := spl_sum c r [] x hx; simp at this ⊢; omega
   · have := spl_sum c r (cur ++ [b]) x hx; simp at this ⊢; omega
end Go.Proofs.YtndmeaoidihikaaGreatDoor

namespace Go.Proofs.YtndmeaoidihikaaGreatDoor
open Go.RowKit
set_option maxHeartbeats 4000000
set_option maxRecDepth 100000

end Go.Proofs.YtndmeaoidihikaaGreatDoor

namespace Go.Proofs.YtndmeaoidihikaaGreatDoor
open Go.RowKit
set_option maxHeartbeats 4000000
set_option maxRecDepth 100000

section
variable {P : Program} {ops : Array Oper} {rest : List Oper} {a : Act} {Qa : Act → Prop} {α : Type} {c : α → Value} {sz bytes : Nat} {t e t2 e2 : TypeId} {z : Value} {ad : Option Addr} {cap : Nat} {l : List α} {k : Int} {w : World}
 {d1 d2 d3 : Tmp} {ty1 ty2 ty3 : TypeId} {p1 p2 p3 : String} {s x : Operand} {af1 af2 af3 : Array Edge} {j : Nat}
end

end Go.Proofs.YtndmeaoidihikaaGreatDoor

namespace Go.Proofs.YtndmeaoidihikaaGreatDoor
open Go.RowKit
set_option maxRecDepth 100000

section
open Go.ChangeMaps
variable {H : Type} {enc : TypeId × Value → H} {W : World}
end
end Go.Proofs.YtndmeaoidihikaaGreatDoor

namespace Go.Proofs.YtndmeaoidihikaaGreatDoor
open Go.RowKit
set_option maxHeartbeats 8000000
set_option maxRecDepth 100000

theorem mdecimal_any (l : List UInt8) (w : World) (hw : LibW w) (hz : l.length ≤ 1048576) :
  Calls Tryz.prog 81 #[.string (bT l)] w fun r w' => ∃ n : Int, r = .returned (.tuple #[.int .i64 n, .bool (intL l).isSome]) ∧ (∀ m : Nat, intL l = some m → n = m) ∧ Below w.heap.size w w' := by
 by_cases hA : ∃ v, Lib.atoiAll l = .ok v
 ·obtain ⟨v, hv⟩ := hA
  have C := fun w => atoi_ok l v w hz hv
  have vb := Lib.atoiAll_bounds hv
  by_cases h0 : 0 ≤ v
  ·by_cases h9 : l.length ≤ 9
   ·have hI := itoaOk_tab hw.tab v (by omega) (by omega)
    obtain ⟨s, hs⟩ : ∃ s, s = bT l := ⟨_, rfl⟩
    obtain ⟨I, hIe⟩ : ∃ I, I = itoaB v := ⟨_, rfl⟩
    unfold ItoaOk at hI
    rw [← hIe] at hI
    have hsz : s.size ≤ 9 := by rw [hs, bT_size]; exact h9
    by_cases he : I = s
    ·have hd : (I.toList == s.toList) = true := by rw [eqS, he]; exact decide_eq_true rfl
     have hi := intL_some hv h9 (by rw [← hIe, he, hs]) h0
     have H1 : (intL l).isSome = true := by rw [hi]; rfl
     have H2 : ∀ m : Nat, intL l = some m → v = m := fun m hm => by rw [hi] at hm; cases hm; omega
     rw [← hs] at C ⊢
     rw [H1]
     have HC := hid C; have HI := hid hI; have H2 := hid H2
     subst he
     clear C hI hi H1 hv vb hs hIe h9
     go_enter Tryz.func81, Tryz.ntmps81
     go_wp2_with fail
     refine (HC.out w).mono ?_
     rintro e w1 ⟨rfl, b1⟩
     go_wp2_with fail
     refine (HI.out w1 b1).mono ?_
     rintro e w2 ⟨rfl, b2⟩
     go_wp2_with fail
     go_ret2
     exact ⟨_, rfl, H2.out, bnext b1 b2⟩
    ·have hd : (I.toList == s.toList) = false := by rw [eqS]; exact decide_eq_false he
     have hi : intL l = none := by
      cases h : intL l with
      | none => rfl
      | some n =>
       obtain ⟨_, _, _, e1, e2, _⟩ := intL_canon h
       rw [hv] at e2; cases e2
       exact absurd (by rw [hIe, hs]; exact e1) he
     have H1 : (intL l).isSome = false := by rw [hi]; rfl
     have H2 : ∀ m : Nat, intL l = some m → v = m := fun m hm => by rw [hi] at hm; cases hm
     rw [← hs] at C ⊢
     rw [H1]
     have HC := hid C; have HI := hid hI; have H2 := hid H2
     clear C hI hi H1 hv vb hs hIe h9 he
     go_enter Tryz.func81, Tryz.ntmps81
     go_wp2_with fail
     refine (HC.out w).mono ?_
     rintro e w1 ⟨rfl, b1⟩
     go_wp2_with fail
     refine (HI.out w1 b1).mono ?_
     rintro e w2 ⟨rfl, b2⟩
     go_wp2_with fail
     go_ret2
     exact ⟨_, rfl, H2.out, bnext b1 b2⟩
   ·have hi : intL l = none := by unfold intL; rw [if_neg (fun h => h9 h.2)]
    have H1 : (intL l).isSome = false := by rw [hi]; rfl
    have H2 : ∀ m : Nat, intL l = some m → v = m := fun m hm => by rw [hi] at hm; cases hm
    obtain ⟨s, hs⟩ : ∃ s, s = bT l := ⟨_, rfl⟩
    have hsz : ¬ s.size ≤ 9 := by rw [hs, bT_size]; exact h9
    rw [← hs] at C ⊢
    rw [H1]
    have HC := hid C; have H2 := hid H2
    clear C hi H1 hv hs h9 vb
    go_enter Tryz.func81, Tryz.ntmps81
    go_wp2_with fail
    refine (HC.out w).mono ?_
    rintro e w1 ⟨rfl, b1⟩
    go_wp2_with fail
    go_ret2
    exact ⟨_, rfl, H2.out, b1⟩
  ·have hi : intL l = none := by
    cases h : intL l with
    | none => rfl
    | some n => have := (intL_canon h).2.2.2.2.1; rw [hv] at this; cases this; omega
   have H1 : (intL l).isSome = false := by rw [hi]; rfl
   have H2 : ∀ m : Nat, intL l = some m → v = m := fun m hm => by rw [hi] at hm; cases hm
   obtain ⟨s, hs⟩ : ∃ s, s = bT l := ⟨_, rfl⟩
   rw [← hs] at C ⊢
   rw [H1]
   have hd0 : decide (0 ≤ v) = false := decide_eq_false h0
   have HC := hid C; have H2 := hid H2
   clear C hi H1 hv vb hs
   go_enter Tryz.func81, Tryz.ntmps81
   go_wp2_with fail
   refine (HC.out w).mono ?_
   rintro e w1 ⟨rfl, b1⟩
   go_wp2_with fail
   go_ret2
   exact ⟨_, rfl, H2.out, b1⟩
 ·have C := fun w hw => atoi_no l w hw hz (fun v h => hA ⟨v, h⟩)
  have hi : intL l = none := by
   cases h : intL l with
   | none => rfl
   | some n => exact absurd ⟨_, (intL_canon h).2.2.2.2.1⟩ hA
  rw [hi]
  obtain ⟨s, hs⟩ : ∃ s, s = bT l := ⟨_, rfl⟩
  rw [← hs] at C ⊢
  have HC := hid C
  clear C hi hA hs
  go_enter Tryz.func81, Tryz.ntmps81
  go_wp2_with fail
  refine (HC.out w hw).mono ?_
  rintro e w1 ⟨n, t, p, rfl, b1⟩
  go_wp2_with fail
  go_ret2
  exact ⟨_, rfl, (fun m hm => by cases hm), b1⟩
end Go.Proofs.YtndmeaoidihikaaGreatDoor

namespace Go.Proofs.YtndmeaoidihikaaGreatDoor
open Go.RowKit
set_option maxHeartbeats 8000000
set_option maxRecDepth 100000

theorem mappedI_any (al : Option Addr) (cl : Nat) (l : List Int) (w : World) (hL : Ints w al cl l) (hn : l.length ≤ 1048576) (hl : ∀ x ∈ l, 0 ≤ x ∧ x < 100) :
  Calls Tryz.prog 78 #[.slice al l.length cl, .func (.func 79) #[] #[]] w fun r w' => ∃ v, r = .returned v ∧ Own cStr 1 w.heap.size 9 w' v (l.map itoaB) ∧ Below w.heap.size w w' := by
 have hcap := hL.le
 have hmx := hL.max
 have HF : ∀ x ∈ l, ∀ w', Calls Tryz.prog 79 #[.int .i64 x] w' fun e w'' => e = .returned (.string (itoaB x)) ∧ Below w'.heap.size w' w'' := fun x hx w' => itoaOk_small w' x (hl x hx).1 (hl x hx).2 w' (Below.refl _ _)
 have H := hid HF
 clear HF hl
 have hS := (SL.nil w).nilS (α := ByteArray) (c := cStr) (sz := 1) (e := 9) cStrS
 go_enter Tryz.func78, Tryz.ntmps78
 go_wp2_with fail
 go_loopw [5, 10] (fun v i wr => ∃ k : Nat, k ≤ l.length ∧ i = .int .i64 k ∧ SL w.heap.size w wr [pOwn cStr 1 9 v ((l.take k).map itoaB)]) (fun _ i _ => l.length - (intOf i).toNat)
 case atStart => exact ⟨0, by omega, rfl, hS⟩
 case round =>
  clear hS
  obtain ⟨k, hk, rfl, hSr⟩ := hrel
  have hLr := hL.below hSr.b
  by_cases hlt : k < l.length
  ·have hmem := atD_mem hlt
   have ht := take_snoc hlt
   have hlen : ((l.take k).map itoaB).length ≤ 1048576 := by simp; omega
   obtain ⟨x, hx⟩ : ∃ x, x = atD 0 l k := ⟨_, rfl⟩
   rw [← hx] at hmem ht
   have HX := hid hx; have HT := hid ht
   clear hx ht
   go_wp2_with ((with_reducible refine wpList_idx _ 0 E_ints F_int cInt1 wU wU (hLr) oD oD (fun _ => wU) (fun _ => ?_)); rw [← HX.out])
   refine (H.out x hmem _).mono ?_
   rintro e w1 ⟨rfl, b1⟩
   have hS1 := hSr.mono b1
   go_wp2_with ((with_reducible refine wpList_pushL (y := (itoaB x)) 0 E_strs wU wU (hS1) wU cStrO ⟨rfl, rfl⟩ (by first | with_unfolding_all rfl | simp) wU (by first | omega | (simp; omega)) (by first | omega | (simp; omega)) ?_); intro v2 w2 hS2)
   exact ⟨⟨k + 1, by omega, by go_num, by rw [HT.out, List.map_append]; exact hS2⟩, by simp [intOf]; omega⟩
  ·have hkk : k = l.length := by omega
   subst hkk
   rw [List.take_length] at hSr
   go_wp2_with fail
   go_ret
   exact ⟨_, rfl, hSr.own 0 rfl, hSr.b⟩
end Go.Proofs.YtndmeaoidihikaaGreatDoor

namespace Go.Proofs.YtndmeaoidihikaaGreatDoor
open Go.RowKit
set_option maxHeartbeats 8000000
set_option maxRecDepth 100000

def joinB (l : List ByteArray) (c : UInt8) : ByteArray := ⟨(Lib.join (l.map (·.data.toList)) [c]).toArray⟩
theorem joinC_any (c : UInt8) (a : Option Addr) (cap : Nat) (l : List ByteArray) (w : World) (hS : Strs w a cap l) (hl : l.length ≤ 1048576) (hz : (Lib.join (l.map (·.data.toList)) [c]).length ≤ 140737488355328) :
  Calls Tryz.prog 77 #[.slice a l.length cap, .string ⟨#[c]⟩] w fun r w' => r = .returned (.string (joinB l c)) ∧ Below w.heap.size w w' := by
 by_cases h0 : l = []
 ·subst h0
  refine (Tryz.strings_Join_none a cap ⟨#[c]⟩ w).mono ?_
  rintro e w' ⟨rfl, rfl⟩
  exact ⟨rfl, Below.refl _ _⟩
 ·have hpos : 0 < l.length := by cases l; exact absurd rfl h0; simp
  obtain ⟨b, o, rfl, hc⟩ := hS.cells (by decide) ByteArray.empty 0 hpos
  refine Tryz.strings_Join b o cap l ⟨#[c]⟩ w (fun j x hx => ?_) ?_ (by omega) hS.le (by simpa using hz)
  ·have hj := (List.getElem?_eq_some_iff.1 hx).1
   obtain ⟨b', o', e', hc'⟩ := hS.cells (by decide) ByteArray.empty j hj
   cases e'
   have := hc' 0 (.string x) (by rw [List.getD_eq_getElem?_getD, hx]; rfl)
   simpa using this
  ·have := hc 0 _ rfl
   exact World.block_lt_of_cell? w _ this

def kindB (r : Bool) : ByteArray := if r then ⟨#[114, 105, 110, 103]⟩ else ⟨#[114, 111, 119]⟩
def signB (t : Int) : ByteArray := if t < 0 then ⟨#[45]⟩ else ⟨#[43]⟩
def swB (l : List Int) : ByteArray := if l = [] then ⟨#[110, 111, 110, 101]⟩ else joinB (l.map itoaB) 44
def printMB (m : MacV) : ByteArray := joinB [kindB m.ring, itoaB m.gears, signB m.turn, swB m.sw] 32
theorem join_lenC (b : UInt8) (ls : List (List UInt8)) (c : Nat) (h : ∀ x ∈ ls, x.length ≤ c) : (Lib.join ls [b]).length ≤ ls.length * (c + 1) := by
 have ht : ∀ r : List (List UInt8), (∀ x ∈ r, x.length ≤ c) → (Lib.joinTail [b] r).length ≤ r.length * (c + 1) := by
  intro r
  induction r with
  | nil => intro _; simp [Lib.joinTail]
  | cons y r ih =>
   intro h
   have h1 := ih (fun x hx => h x (List.mem_cons_of_mem _ hx))
   have h2 := h y List.mem_cons_self
   unfold Lib.joinTail at h1 ⊢
   rw [List.map_cons, List.flatten_cons, List.length_append, List.length_cons, Nat.add_mul]
   simp only [List.length_append, List.length_cons, List.length_nil]
   omega
 match ls, h with
 | [], _ => simp [Lib.join_nil]
 | x :: r, h =>
  rw [Lib.join_cons, List.length_append, List.length_cons, Nat.add_mul]
  have h1 := ht r (fun x hx => h x (List.mem_cons_of_mem _ hx))
  have h2 := h x List.mem_cons_self
  omega

theorem swB_size (l : List Int) (hn : l.length ≤ 64) (hl : ∀ x ∈ l, 0 ≤ x ∧ x < 100) : (Lib.join ((l.map itoaB).map (·.data.toList)) [44]).length ≤ 2048 := by
 have := join_lenC 44 ((l.map itoaB).map (·.data.toList)) 20 (fun x hx => by
  simp only [List.map_map, List.mem_map] at hx
  obtain ⟨y, hy, rfl⟩ := hx
  have := itoaB_size y (hl y hy).1 (by have := (hl y hy).2; omega)
  simpa using this)
 simp only [List.length_map] at this
 have h2 : l.length * (20 + 1) ≤ 64 * 21 := Nat.mul_le_mul hn (Nat.le_refl _)
 omega
end Go.Proofs.YtndmeaoidihikaaGreatDoor

namespace Go.Proofs.YtndmeaoidihikaaGreatDoor
open Go.RowKit
set_option maxHeartbeats 8000000
set_option maxRecDepth 100000

theorem joinB_four (a b c d : ByteArray) (s : UInt8) (ha : a.size ≤ 4096) (hb : b.size ≤ 4096) (hc : c.size ≤ 4096) (hd : d.size ≤ 4096) : (Lib.join ([a, b, c, d].map (·.data.toList)) [s]).length ≤ 140737488355328 := by
 have := join_lenC s ([a, b, c, d].map (·.data.toList)) 4096 (fun x hx => by
  simp only [List.map_cons, List.map_nil, List.mem_cons, List.not_mem_nil, or_false] at hx
  rcases hx with rfl | rfl | rfl | rfl <;> simpa using by assumption)
 simp only [List.map_cons, List.map_nil, List.length_cons, List.length_nil] at this ⊢
 omega
theorem swB_size2 (l : List Int) (hn : l.length ≤ 16) (hl : ∀ x ∈ l, 0 ≤ x ∧ x < 100) : (swB l).size ≤ 4096 := by
 unfold swB
 split
 ·decide
 ·have := swB_size l (by omega) hl
  show (Lib.join _ _).toArray.size ≤ _
  rw [List.size_toArray]
  omega

theorem mPrint_any (m : MacV) (ad : Option Addr) (cap : Nat) (w : World) (hR : Ints w ad cap m.sw) (HK : ChkM m ad cap) (hw : macE m = 0 → ∀ x ∈ m.sw, 0 ≤ x ∧ x < 100) :
  Calls Tryz.prog 35 #[mV m ad cap] w fun r w' => r = .returned (.tuple #[.string (if macE m = 0 then printMB m else ⟨#[]⟩), .int .i64 (macE m)]) ∧ Below w.heap.size w w' := by
 have hS := (SL.nil w).box (.cells (mC m ad cap) 24)
 have R1 := hR.below hS.b
 unfold ChkM at HK
 by_cases he : macE m = 0
 ·have hok := (macE_zero he).1
  have hlo := hok.lo
  have hhi := hok.hi
  have hmany := hok.many
  have hswr := hw he
  have CI := fun w => itoaOk_small w m.gears (by omega) (by omega) w (Below.refl _ _)
  rw [if_pos he]
  rw [he] at HK ⊢
  have hsz := itoaB_size m.gears (by omega) (by omega)
  have hSz := swB_size2 m.sw (by omega) hswr
  have hP : printMB m = joinB [kindB m.ring, itoaB m.gears, signB m.turn, swB m.sw] 32 := rfl
  rw [hP]
  have CL := fun w h => mappedI_any ad cap m.sw w h (by omega) hswr
  have CJ := fun (a : Option Addr) (c : Nat) w (h : Strs w a c (m.sw.map itoaB)) => joinC_any 44 a c (m.sw.map itoaB) w h (by rw [List.length_map]; omega) (Nat.le_trans (swB_size m.sw (by omega) hswr) (by decide))
  obtain ⟨G, hG⟩ : ∃ G, G = itoaB m.gears := ⟨_, rfl⟩
  rw [← hG] at CI hsz ⊢
  have hml : (m.sw.map itoaB).length = m.sw.length := by simp
  rw [hml] at CJ
  obtain ⟨S, hSe⟩ : ∃ S, S = swB m.sw := ⟨_, rfl⟩
  rw [← hSe] at hSz ⊢
  have hcap := hR.le
  have hmx := hR.max
  have HML := hid hml
  have HC := hid HK; have HI := hid CI; have HL := hid CL; have HJ := hid CJ
  clear HK CI CL CJ hP hG hok he hw hswr hml
  have hkind : kindB m.ring = if m.ring then (⟨#[114, 105, 110, 103]⟩ : ByteArray) else ⟨#[114, 111, 119]⟩ := rfl
  have hsign : signB m.turn = if m.turn < 0 then (⟨#[45]⟩ : ByteArray) else ⟨#[43]⟩ := rfl
  have HSZ := hid hSz
  by_cases h0 : m.sw = []
  ·have hs : S = ⟨#[110, 111, 110, 101]⟩ := by rw [hSe]; unfold swB; rw [if_pos h0]
   have hl : decide (0 < m.sw.length) = false := by rw [h0]; rfl
   subst hs
   clear h0 hSe HL HJ hSz
   cases hr : m.ring <;> cases ht : decide (m.turn < 0)
   ·have hfin : joinB [kindB false, G, signB m.turn, ⟨#[110, 111, 110, 101]⟩] 32 = joinB [⟨#[114, 111, 119]⟩, G, ⟨#[43]⟩, ⟨#[110, 111, 110, 101]⟩] 32 := by
     rw [hsign]
     simp only [decide_eq_true_eq, decide_eq_false_iff_not] at ht
     simp [ht, kindB]
    have HFIN := hid hfin; have HR := hid hr
    clear hfin hr hkind hsign
    go_enter Tryz.func35, Tryz.ntmps35
    go_wp2_with fail
    refine (HC.out _ R1).mono ?_
    rintro e w1 ⟨rfl, b1⟩
    have hS1 := hS.mono b1
    have q0 := (hS1.blk 0 rfl).1
    have q1 : w1.heap[w.heap.size]? = some (.cells #[.bool false, .int .i64 m.gears, .int .i64 m.turn, .slice ad m.sw.length cap] 24) := by rw [q0]; show some (Obj.cells #[.bool m.ring, _, _, _] _) = _; rw [HR.out]
    clear q0
    go_wp2_with (with_reducible refine wpList_ldB (by first | exact F_boolM | exact F_int | exact F_sliceM) wU wU q1 wU ?_)
    refine (HI.out _).mono ?_
    rintro e w4 ⟨rfl, b4⟩
    have hS4 := hS1.mono b4
    go_wp2_with fail
    refine (joinC_any 32 _ _ [_, _, _, _] _ (reps_newN cStrS [_, _, _, _] 4 rfl (by decide) _ _ (by simp) rfl) (by simp) (joinB_four _ _ _ _ _ (by decide) (by omega) (by decide) (by decide))).mono ?_
    rintro e w5 ⟨rfl, b5⟩
    go_wp2_with fail
    go_ret2
    exact ⟨by rw [HFIN.out]; rfl, bnext (bal hS4.b _) b5⟩
   ·have hfin : joinB [kindB false, G, signB m.turn, ⟨#[110, 111, 110, 101]⟩] 32 = joinB [⟨#[114, 111, 119]⟩, G, ⟨#[45]⟩, ⟨#[110, 111, 110, 101]⟩] 32 := by
     rw [hsign]
     simp only [decide_eq_true_eq, decide_eq_false_iff_not] at ht
     simp [ht, kindB]
    have HFIN := hid hfin; have HR := hid hr
    clear hfin hr hkind hsign
    go_enter Tryz.func35, Tryz.ntmps35
    go_wp2_with fail
    refine (HC.out _ R1).mono ?_
    rintro e w1 ⟨rfl, b1⟩
    have hS1 := hS.mono b1
    have q0 := (hS1.blk 0 rfl).1
    have q1 : w1.heap[w.heap.size]? = some (.cells #[.bool false, .int .i64 m.gears, .int .i64 m.turn, .slice ad m.sw.length cap] 24) := by rw [q0]; show some (Obj.cells #[.bool m.ring, _, _, _] _) = _; rw [HR.out]
    clear q0
    go_wp2_with (with_reducible refine wpList_ldB (by first | exact F_boolM | exact F_int | exact F_sliceM) wU wU q1 wU ?_)
    refine (HI.out _).mono ?_
    rintro e w4 ⟨rfl, b4⟩
    have hS4 := hS1.mono b4
    go_wp2_with fail
    refine (joinC_any 32 _ _ [_, _, _, _] _ (reps_newN cStrS [_, _, _, _] 4 rfl (by decide) _ _ (by simp) rfl) (by simp) (joinB_four _ _ _ _ _ (by decide) (by omega) (by decide) (by decide))).mono ?_
    rintro e w5 ⟨rfl, b5⟩
    go_wp2_with fail
    go_ret2
    exact ⟨by rw [HFIN.out]; rfl, bnext (bal hS4.b _) b5⟩
   ·have hfin : joinB [kindB true, G, signB m.turn, ⟨#[110, 111, 110, 101]⟩] 32 = joinB [⟨#[114, 105, 110, 103]⟩, G, ⟨#[43]⟩, ⟨#[110, 111, 110, 101]⟩] 32 := by
     rw [hsign]
     simp only [decide_eq_true_eq, decide_eq_false_iff_not] at ht
     simp [ht, kindB]
    have HFIN := hid hfin; have HR := hid hr
    clear hfin hr hkind hsign
    go_enter Tryz.func35, Tryz.ntmps35
    go_wp2_with fail
    refine (HC.out _ R1).mono ?_
    rintro e w1 ⟨rfl, b1⟩
    have hS1 := hS.mono b1
    have q0 := (hS1.blk 0 rfl).1
    have q1 : w1.heap[w.heap.size]? = some (.cells #[.bool true, .int .i64 m.gears, .int .i64 m.turn, .slice ad m.sw.length cap] 24) := by rw [q0]; show some (Obj.cells #[.bool m.ring, _, _, _] _) = _; rw [HR.out]
    clear q0
    go_wp2_with (with_reducible refine wpList_ldB (by first | exact F_boolM | exact F_int | exact F_sliceM) wU wU q1 wU ?_)
    refine (HI.out _).mono ?_
    rintro e w4 ⟨rfl, b4⟩
    have hS4 := hS1.mono b4
    go_wp2_with fail
    refine (joinC_any 32 _ _ [_, _, _, _] _ (reps_newN cStrS [_, _, _, _] 4 rfl (by decide) _ _ (by simp) rfl) (by simp) (joinB_four _ _ _ _ _ (by decide) (by omega) (by decide) (by decide))).mono ?_
    rintro e w5 ⟨rfl, b5⟩
    go_wp2_with fail
    go_ret2
    exact ⟨by rw [HFIN.out]; rfl, bnext (bal hS4.b _) b5⟩
   ·have hfin : joinB [kindB true, G, signB m.turn, ⟨#[110, 111, 110, 101]⟩] 32 = joinB [⟨#[114, 105, 110, 103]⟩, G, ⟨#[45]⟩, ⟨#[110, 111, 110, 101]⟩] 32 := by
     rw [hsign]
     simp only [decide_eq_true_eq, decide_eq_false_iff_not] at ht
     simp [ht, kindB]
    have HFIN := hid hfin; have HR := hid hr
    clear hfin hr hkind hsign
    go_enter Tryz.func35, Tryz.ntmps35
    go_wp2_with fail
    refine (HC.out _ R1).mono ?_
    rintro e w1 ⟨rfl, b1⟩
    have hS1 := hS.mono b1
    have q0 := (hS1.blk 0 rfl).1
    have q1 : w1.heap[w.heap.size]? = some (.cells #[.bool true, .int .i64 m.gears, .int .i64 m.turn, .slice ad m.sw.length cap] 24) := by rw [q0]; show some (Obj.cells #[.bool m.ring, _, _, _] _) = _; rw [HR.out]
    clear q0
    go_wp2_with (with_reducible refine wpList_ldB (by first | exact F_boolM | exact F_int | exact F_sliceM) wU wU q1 wU ?_)
    refine (HI.out _).mono ?_
    rintro e w4 ⟨rfl, b4⟩
    have hS4 := hS1.mono b4
    go_wp2_with fail
    refine (joinC_any 32 _ _ [_, _, _, _] _ (reps_newN cStrS [_, _, _, _] 4 rfl (by decide) _ _ (by simp) rfl) (by simp) (joinB_four _ _ _ _ _ (by decide) (by omega) (by decide) (by decide))).mono ?_
    rintro e w5 ⟨rfl, b5⟩
    go_wp2_with fail
    go_ret2
    exact ⟨by rw [HFIN.out]; rfl, bnext (bal hS4.b _) b5⟩
  ·have hs : S = joinB (m.sw.map itoaB) 44 := by rw [hSe]; unfold swB; rw [if_neg h0]
   have hl : decide (0 < m.sw.length) = true := decide_eq_true (List.length_pos_iff.2 h0)
   rw [← hs] at HJ
   clear h0 hSe hs hSz
   cases hr : m.ring <;> cases ht : decide (m.turn < 0)
   ·have hfin : joinB [kindB false, G, signB m.turn, S] 32 = joinB [⟨#[114, 111, 119]⟩, G, ⟨#[43]⟩, S] 32 := by
     rw [hsign]
     simp only [decide_eq_true_eq, decide_eq_false_iff_not] at ht
     simp [ht, kindB]
    have HFIN := hid hfin; have HR := hid hr
    clear hfin hr hkind hsign
    go_enter Tryz.func35, Tryz.ntmps35
    go_wp2_with fail
    refine (HC.out _ R1).mono ?_
    rintro e w1 ⟨rfl, b1⟩
    have hS1 := hS.mono b1
    have q0 := (hS1.blk 0 rfl).1
    have q1 : w1.heap[w.heap.size]? = some (.cells #[.bool false, .int .i64 m.gears, .int .i64 m.turn, .slice ad m.sw.length cap] 24) := by rw [q0]; show some (Obj.cells #[.bool m.ring, _, _, _] _) = _; rw [HR.out]
    clear q0
    go_wp2_with (with_reducible refine wpList_ldB (by first | exact F_boolM | exact F_int | exact F_sliceM) wU wU q1 wU ?_)
    refine (HL.out _ (hR.below hS1.b)).mono ?_
    rintro e w2 ⟨v2, rfl, ho2, b2⟩
    obtain ⟨a2, c2, rfl, hr2, _⟩ := ho2.reps
    have hS2 := hS1.mono b2
    rw [HML.out]
    rw [HML.out] at ho2
    clear q1
    go_wp2_with fail
    refine (HJ.out a2 c2 _ hr2).mono ?_
    rintro e w3 ⟨rfl, b3⟩
    have hS3 := hS2.mono b3
    have q0 := (hS3.blk 0 rfl).1
    have q3 : w3.heap[w.heap.size]? = some (.cells #[.bool false, .int .i64 m.gears, .int .i64 m.turn, .slice ad m.sw.length cap] 24) := by rw [q0]; show some (Obj.cells #[.bool m.ring, _, _, _] _) = _; rw [HR.out]
    clear q0
    go_wp2_with (with_reducible refine wpList_ldB (by first | exact F_boolM | exact F_int | exact F_sliceM) wU wU q3 wU ?_)
    refine (HI.out _).mono ?_
    rintro e w4 ⟨rfl, b4⟩
    have hS4 := hS3.mono b4
    go_wp2_with fail
    refine (joinC_any 32 _ _ [_, _, _, _] _ (reps_newN cStrS [_, _, _, _] 4 rfl (by decide) _ _ (by simp) rfl) (by simp) (joinB_four _ _ _ _ _ (by decide) (by omega) (by decide) HSZ.out)).mono ?_
    rintro e w5 ⟨rfl, b5⟩
    go_wp2_with fail
    go_ret2
    exact ⟨by rw [HFIN.out]; rfl, bnext (bal hS4.b _) b5⟩
   ·have hfin : joinB [kindB false, G, signB m.turn, S] 32 = joinB [⟨#[114, 111, 119]⟩, G, ⟨#[45]⟩, S] 32 := by
     rw [hsign]
     simp only [decide_eq_true_eq, decide_eq_false_iff_not] at ht
     simp [ht, kindB]
    have HFIN := hid hfin; have HR := hid hr
    clear hfin hr hkind hsign
    go_enter Tryz.func35, Tryz.ntmps35
    go_wp2_with fail
    refine (HC.out _ R1).mono ?_
    rintro e w1 ⟨rfl, b1⟩
    have hS1 := hS.mono b1
    have q0 := (hS1.blk 0 rfl).1
    have q1 : w1.heap[w.heap.size]? = some (.cells #[.bool false, .int .i64 m.gears, .int .i64 m.turn, .slice ad m.sw.length cap] 24) := by rw [q0]; show some (Obj.cells #[.bool m.ring, _, _, _] _) = _; rw [HR.out]
    clear q0
    go_wp2_with (with_reducible refine wpList_ldB (by first | exact F_boolM | exact F_int | exact F_sliceM) wU wU q1 wU ?_)
    refine (HL.out _ (hR.below hS1.b)).mono ?_
    rintro e w2 ⟨v2, rfl, ho2, b2⟩
    obtain ⟨a2, c2, rfl, hr2, _⟩ := ho2.reps
    have hS2 := hS1.mono b2
    rw [HML.out]
    rw [HML.out] at ho2
    clear q1
    go_wp2_with fail
    refine (HJ.out a2 c2 _ hr2).mono ?_
    rintro e w3 ⟨rfl, b3⟩
    have hS3 := hS2.mono b3
    have q0 := (hS3.blk 0 rfl).1
    have q3 : w3.heap[w.heap.size]? = some (.cells #[.bool false, .int .i64 m.gears, .int .i64 m.turn, .slice ad m.sw.length cap] 24) := by rw [q0]; show some (Obj.cells #[.bool m.ring, _, _, _] _) = _; rw [HR.out]
    clear q0
    go_wp2_with (with_reducible refine wpList_ldB (by first | exact F_boolM | exact F_int | exact F_sliceM) wU wU q3 wU ?_)
    refine (HI.out _).mono ?_
    rintro e w4 ⟨rfl, b4⟩
    have hS4 := hS3.mono b4
    go_wp2_with fail
    refine (joinC_any 32 _ _ [_, _, _, _] _ (reps_newN cStrS [_, _, _, _] 4 rfl (by decide) _ _ (by simp) rfl) (by simp) (joinB_four _ _ _ _ _ (by decide) (by omega) (by decide) HSZ.out)).mono ?_
    rintro e w5 ⟨rfl, b5⟩
    go_wp2_with fail
    go_ret2
    exact ⟨by rw [HFIN.out]; rfl, bnext (bal hS4.b _) b5⟩
   ·have hfin : joinB [kindB true, G, signB m.turn, S] 32 = joinB [⟨#[114, 105, 110, 103]⟩, G, ⟨#[43]⟩, S] 32 := by
     rw [hsign]
     simp only [decide_eq_true_eq, decide_eq_false_iff_not] at ht
     simp [ht, kindB]
    have HFIN := hid hfin; have HR := hid hr
    clear hfin hr hkind hsign
    go_enter Tryz.func35, Tryz.ntmps35
    go_wp2_with fail
    refine (HC.out _ R1).mono ?_
    rintro e w1 ⟨rfl, b1⟩
    have hS1 := hS.mono b1
    have q0 := (hS1.blk 0 rfl).1
    have q1 : w1.heap[w.heap.size]? = some (.cells #[.bool true, .int .i64 m.gears, .int .i64 m.turn, .slice ad m.sw.length cap] 24) := by rw [q0]; show some (Obj.cells #[.bool m.ring, _, _, _] _) = _; rw [HR.out]
    clear q0
    go_wp2_with (with_reducible refine wpList_ldB (by first | exact F_boolM | exact F_int | exact F_sliceM) wU wU q1 wU ?_)
    refine (HL.out _ (hR.below hS1.b)).mono ?_
    rintro e w2 ⟨v2, rfl, ho2, b2⟩
    obtain ⟨a2, c2, rfl, hr2, _⟩ := ho2.reps
    have hS2 := hS1.mono b2
    rw [HML.out]
    rw [HML.out] at ho2
    clear q1
    go_wp2_with fail
    refine (HJ.out a2 c2 _ hr2).mono ?_
    rintro e w3 ⟨rfl, b3⟩
    have hS3 := hS2.mono b3
    have q0 := (hS3.blk 0 rfl).1
    have q3 : w3.heap[w.heap.size]? = some (.cells #[.bool true, .int .i64 m.gears, .int .i64 m.turn, .slice ad m.sw.length cap] 24) := by rw [q0]; show some (Obj.cells #[.bool m.ring, _, _, _] _) = _; rw [HR.out]
    clear q0
    go_wp2_with (with_reducible refine wpList_ldB (by first | exact F_boolM | exact F_int | exact F_sliceM) wU wU q3 wU ?_)
    refine (HI.out _).mono ?_
    rintro e w4 ⟨rfl, b4⟩
    have hS4 := hS3.mono b4
    go_wp2_with fail
    refine (joinC_any 32 _ _ [_, _, _, _] _ (reps_newN cStrS [_, _, _, _] 4 rfl (by decide) _ _ (by simp) rfl) (by simp) (joinB_four _ _ _ _ _ (by decide) (by omega) (by decide) HSZ.out)).mono ?_
    rintro e w5 ⟨rfl, b5⟩
    go_wp2_with fail
    go_ret2
    exact ⟨by rw [HFIN.out]; rfl, bnext (bal hS4.b _) b5⟩
   ·have hfin : joinB [kindB true, G, signB m.turn, S] 32 = joinB [⟨#[114, 105, 110, 103]⟩, G, ⟨#[45]⟩, S] 32 := by
     rw [hsign]
     simp only [decide_eq_true_eq, decide_eq_false_iff_not] at ht
     simp [ht, kindB]
    have HFIN := hid hfin; have HR := hid hr
    clear hfin hr hkind hsign
    go_enter Tryz.func35, Tryz.ntmps35
    go_wp2_with fail
    refine (HC.out _ R1).mono ?_
    rintro e w1 ⟨rfl, b1⟩
    have hS1 := hS.mono b1
    have q0 := (hS1.blk 0 rfl).1
    have q1 : w1.heap[w.heap.size]? = some (.cells #[.bool true, .int .i64 m.gears, .int .i64 m.turn, .slice ad m.sw.length cap] 24) := by rw [q0]; show some (Obj.cells #[.bool m.ring, _, _, _] _) = _; rw [HR.out]
    clear q0
    go_wp2_with (with_reducible refine wpList_ldB (by first | exact F_boolM | exact F_int | exact F_sliceM) wU wU q1 wU ?_)
    refine (HL.out _ (hR.below hS1.b)).mono ?_
    rintro e w2 ⟨v2, rfl, ho2, b2⟩
    obtain ⟨a2, c2, rfl, hr2, _⟩ := ho2.reps
    have hS2 := hS1.mono b2
    rw [HML.out]
    rw [HML.out] at ho2
    clear q1
    go_wp2_with fail
    refine (HJ.out a2 c2 _ hr2).mono ?_
    rintro e w3 ⟨rfl, b3⟩
    have hS3 := hS2.mono b3
    have q0 := (hS3.blk 0 rfl).1
    have q3 : w3.heap[w.heap.size]? = some (.cells #[.bool true, .int .i64 m.gears, .int .i64 m.turn, .slice ad m.sw.length cap] 24) := by rw [q0]; show some (Obj.cells #[.bool m.ring, _, _, _] _) = _; rw [HR.out]
    clear q0
    go_wp2_with (with_reducible refine wpList_ldB (by first | exact F_boolM | exact F_int | exact F_sliceM) wU wU q3 wU ?_)
    refine (HI.out _).mono ?_
    rintro e w4 ⟨rfl, b4⟩
    have hS4 := hS3.mono b4
    go_wp2_with fail
    refine (joinC_any 32 _ _ [_, _, _, _] _ (reps_newN cStrS [_, _, _, _] 4 rfl (by decide) _ _ (by simp) rfl) (by simp) (joinB_four _ _ _ _ _ (by decide) (by omega) (by decide) HSZ.out)).mono ?_
    rintro e w5 ⟨rfl, b5⟩
    go_wp2_with fail
    go_ret2
    exact ⟨by rw [HFIN.out]; rfl, bnext (bal hS4.b _) b5⟩
 ·obtain ⟨E, hE⟩ : ∃ E, E = macE m := ⟨_, rfl⟩
  rw [if_neg he]
  rw [← hE] at HK he ⊢
  have hne : (E != 0) = true := by simpa using he
  have HC := hid HK
  clear HK hE he hw
  go_enter Tryz.func35, Tryz.ntmps35
  go_wp2_with fail
  refine (HC.out _ R1).mono ?_
  rintro e w1 ⟨rfl, b1⟩
  have hS1 := hS.mono b1
  go_wp2_with fail
  go_ret2
  exact ⟨rfl, hS1.b⟩
end Go.Proofs.YtndmeaoidihikaaGreatDoor

namespace Go.Proofs.YtndmeaoidihikaaGreatDoor
open Go.RowKit
set_option maxHeartbeats 8000000
set_option maxRecDepth 100000

def rowT : List UInt8 := [114, 111, 119]
def ringT : List UInt8 := [114, 105, 110, 103]
def noneT : List UInt8 := [110, 111, 110, 101]
/-- all numbers of some texts. -/
def intsL : List (List UInt8) → Option (List Int)
 | [] => some []
 | x :: r => match intL x, intsL r with | some n, some l => some ((n : Int) :: l) | _, _ => none
def placesL (w : List UInt8) : Option (List Int) := if w = noneT then some [] else intsL (spl 44 w)
/-- the machine of a text, and the error. -/
def parseGo : List (List UInt8) → MacV × Int
 | [k, g, t, w] =>
  if (k ≠ rowT ∧ k ≠ ringT) ∨ (t ≠ [43] ∧ t ≠ [45]) then (noM, 25) else
  match intL g, placesL w with
  | some n, some l => if macE ⟨decide (k = ringT), n, if t = [45] then -1 else 1, l⟩ ≠ 0 then (noM, macE ⟨decide (k = ringT), n, if t = [45] then -1 else 1, l⟩) else (⟨decide (k = ringT), n, if t = [45] then -1 else 1, l⟩, 0)
  | _, _ => (noM, 25)
 | _ => (noM, 25)
def parseMB (s : List UInt8) : MacV × Int := if 4096 < s.length then (noM, 26) else parseGo (spl 32 s)
/-- a machine and an error came back. -/
def RetMac (W : World) (m : MacV) (e : Int) (r : Ending) (w' : World) : Prop := ∃ a c, r = .returned (.tuple #[mV m a c, .int .i64 e]) ∧ SL W.heap.size W w' [pOwn cInt 1 3 (.slice a m.sw.length c) m.sw]
theorem splitC_any (S : List UInt8) (w : World) (hw : LibW w) (hz : S.length ≤ 1048576) :
  Calls Tryz.prog 80 #[.string (bT S), .string ⟨#[44]⟩] w fun e w' => ∃ a, e = .returned (.slice a (spl 44 S).length (spl 44 S).length) ∧ Strs w' a (spl 44 S).length ((spl 44 S).map bT) ∧ Below w.heap.size w w' ∧ (∀ b, a = some b → w.heap.size ≤ b.block) := by
 obtain ⟨m, hm⟩ := hw.max
 have hc := Tryz.strings_Split (bT S) ⟨#[44]⟩ m w (by rw [bT_size]; omega) hm (by decide)
 have hl : Lib.countB (bT S) ⟨#[44]⟩ + 1 = (spl 44 S).length := by
  have := Lib.splitB_all ⟨#[44]⟩ (by decide) 0 _ (bT S) rfl
  rw [splitB_spl, List.length_map] at this
  exact this.symm
 rw [splitB_spl, hl] at hc
 have hlen := splR_len 44 S []
 refine hc.mono ?_
 rintro e w' ⟨rfl, rfl⟩
 refine ⟨_, rfl, reps_newN cStrS ((spl 44 S).map bT) _ (by simp) (by unfold maxLen; unfold spl; omega) _ _ rfl ?_, bal (Below.refl _ _) _, fun b e => by cases e; exact Nat.le_refl _⟩
 simp only [List.map_map]
 rw [List.flatMap_map]
 generalize spl 44 S = L
 induction L with
 | nil => rfl
 | cons x r ih => rw [List.map_cons, List.flatMap_cons, ← ih]; rfl
theorem four_of {α : Type} {l : List α} (h : l.length = 4) : ∃ a b c d, l = [a, b, c, d] := by
 match l, h with
 | [a, b, c, d], _ => exact ⟨a, b, c, d, rfl⟩
theorem parseGo_len {L : List (List UInt8)} (h : L.length ≠ 4) : parseGo L = (noM, 25) := by
 match L, h with
 | [], _ => rfl
 | [_], _ => rfl
 | [_, _], _ => rfl
 | [_, _, _], _ => rfl
 | [_, _, _, _], h => exact absurd rfl h
 | _ :: _ :: _ :: _ :: _ :: _, _ => rfl
theorem eqT2 (a b : List UInt8) : ((bT a).toList == b) = decide (a = b) := by
 rw [ByteArray.toList_eq]
 rw [Bool.eq_iff_iff]
 simp [bT]
def okT (x : List UInt8) : Bool := (intL x).isSome
theorem intsL_isSome : ∀ l : List (List UInt8), (intsL l).isSome = l.all okT
 | [] => rfl
 | x :: r => by
   rw [List.all_cons, ← intsL_isSome r, intsL]
   unfold okT
   cases intL x <;> cases intsL r <;> rfl
theorem intsL_snoc : ∀ {l : List (List UInt8)} {x : List UInt8} {vals : List Int} {n : Nat}, intsL l = some vals → intL x = some n → intsL (l ++ [x]) = some (vals ++ [(n : Int)])
 | [], x, vals, n, h, hx => by
   cases h
   show intsL [x] = _
   rw [intsL, hx]; rfl
 | y :: r, x, vals, n, h, hx => by
   rw [intsL] at h
   cases hy : intL y with
   | none => rw [hy] at h; cases h
   | some a =>
     cases hr : intsL r with
     | none => rw [hy, hr] at h; cases h
     | some b =>
       rw [hy, hr] at h
       cases h
       rw [List.cons_append, intsL, hy, intsL_snoc hr hx]
       rfl
section
variable {ops : Array Oper} {rest : List Oper} {a : Act} {Q : Exit → Act → World → Prop} {w0 w : World} {L : List Pc} {B : Nat} {ty : TypeId} {p : String} {af : Array Edge}
theorem wpList_stoF {x y : Operand} {k o n c : Nat} {ad : Option Addr} {cs : Array Value} {T : TypeId} (i : Nat) {u : Value} (hx : a.eval x = .pointer (some ⟨k, o, none⟩)) (hy : a.eval y = .slice ad n c) (hS : SL B w0 w L) (hi : L[i]? = some (pBlk k (.cells cs T (0, 0)))) (ho : cs[o]? = some u)
  (hK : ∀ w', SL B w0 w' (L.set i (pBlk k (.cells (cs.setIfInBounds o (.slice ad n c)) T (0, 0)))) → wpList Tryz.prog ops Q rest (a.put none undef) w') :
  wpList Tryz.prog ops Q (⟨none, .store 22 x y, ty, p, af, none⟩ :: rest) a w := by
 have h1 := hS.cell i hi o ho
 have h2 := hS.frozen i hi o
 have h3 := hS.set i hi o (.slice ad n c)
 refine wpList_plain rfl fun K hK' => ?_
 have hs : (Instr.storeAt 22 (.pointer (some ⟨k, o, none⟩)) (.slice ad n c)).run Tryz.prog w = .ok () (w.setCell ⟨k, o, none⟩ (.slice ad n c)) := by
  simp [go_sem, h1, h2]
 unfold Oper.wp
 simp only [execOp, hx, hy]
 simp [hs, Result.andThen]
 exact hK' _ _ (hK _ h3)
end
end Go.Proofs.YtndmeaoidihikaaGreatDoor
