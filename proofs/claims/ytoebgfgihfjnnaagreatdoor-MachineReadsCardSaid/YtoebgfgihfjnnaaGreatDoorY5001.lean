/- Contracts and plain facts that the claim uses (NrP Lib3 ItA OpC TpF LwA OpM QrP QrA QrC QrY QsF RdP QsD K5a). Conditions: as each one states. -/
import Derived.Shelf.Strings.Trim
import Derived.Shelf.Strings.SlTrimAscii
import Derived.Shelf.Strings.Repeat
import Derived.Shelf.Strings.OnBuilder
import Derived.Shelf.Strconv.Itoa1
import Derived.Shelf.Strconv.Itoa3
import Derived.Shelf.LaysM
import Derived.Ground.Names2Prog
import Derived.Test.YtoebgfgihfjnnaaGreatDoorProg
import Derived.WalkKit
import Derived.WalkSpells
import Derived.Maps.AppendAt
import Derived.Deep.Quiet
import Derived.Maps.Own
import Derived.Maps.OwnSet
import Derived.Maps.Views
import Derived.WalkLawsBesides
import Derived.Laws.EntriesVeiled
import Derived.Deep.QuietTactic
import Derived.BigQuiet
import Derived.Lib.OthersKept
import Derived.Deep.RegionHeld3
import Derived.Deep.AppendLies
import Derived.Deep.RegionHeldLaw
import Derived.Deep.RegionLaw
import Derived.Lib.ItoaLen
import Derived.Lib.ItoaMem
import Derived.Shelf.Strconv.ErrVarAll
import Derived.Shelf.Strconv.AtoiAll
import Derived.Shelf.Strings.Cut
import Derived.Shelf.Strings.Split
import Derived.Shelf.Strings.SplitShaped
import Derived.Lib.AppendIntMem
import Derived.Lib.SmallJoins
import Derived.LaidSub
import Derived.Lib.LaidTab
import Derived.ReadAgain
import Derived.ChangeSlices
import Derived.OpenShut
import Derived.ProofKit
import Derived.Deep.DeepHandedRow
import Derived.Deep.SlicePairs
import Derived.RangeFuncNested
import Derived.RangeFuncBound
import Derived.RangeFuncCalls
import Derived.RangeFuncLeaves
import Derived.RangeFuncFrom
import Derived.Shelf.Abstract
import Derived.Shelf.RegionOpen
import Derived.OwnWalkIn
import Derived.TacticsInMore
import Derived.LoopNIn
import Derived.LoopIn
import Derived.Deep.LoopGhost
import Derived.Laws.CopyOwn
import Derived.IntWalk
import Derived.Sort.LoopGhostIn
import Derived.StillTail
import Derived.Laws.Tables
import Derived.BigRegion
import Derived.ChangeAlike
import Derived.Shelf.Bits.Mul64
import Derived.Maps.RangeWalk
import Derived.Lib.Split
import Derived.Lib.AtoiAll
import Derived.Lib.AtoiErrMem
import Derived.Maps.Ext
import Derived.Stop.LaidErr
import Derived.Test.YtoebgfgihfjnnaaGreatDoorCards
import Derived.Test.YtoebgfgihfjnnaaGreatDoorTie
import Derived.Sort.QuietThIn
import Derived.Test.YtoebgfgihfjnnaaGreatDoorXz01
import Derived.Test.YtoebgfgihfjnnaaGreatDoorXz02
import Derived.Test.YtoebgfgihfjnnaaGreatDoorXz03
import Derived.Test.YtoebgfgihfjnnaaGreatDoorXz04
import Derived.Test.YtoebgfgihfjnnaaGreatDoorXz05
import Derived.Test.YtoebgfgihfjnnaaGreatDoorXz06
import Derived.Test.YtoebgfgihfjnnaaGreatDoorXz07
import Derived.Test.YtoebgfgihfjnnaaGreatDoorXz08
import Derived.Test.YtoebgfgihfjnnaaGreatDoorXz09
import Derived.Test.YtoebgfgihfjnnaaGreatDoorXz10
import Derived.Test.YtoebgfgihfjnnaaGreatDoorXz11
import Derived.Test.YtoebgfgihfjnnaaGreatDoorXz12
set_option linter.all false

namespace Go.Proofs.YtoebgfgihfjnnaaGreatDoor
open Go.RowKit
set_option maxHeartbeats 1000000
set_option maxRecDepth 100000

theorem decD_len : ∀ (k u : Nat), u < 10 ^ (k + 1) → (Lib.decDigits u).length ≤ k + 1
 | 0, u, h => by rw [decD_small (by simpa using h)]; simp
 | k + 1, u, h => by
   by_cases h1 : u < 10
   · rw [decD_small h1]; simp
   · rw [decD_big h1]
     have := decD_len k (u / 10) (by rw [Nat.pow_succ] at h; omega)
     simp; omega
theorem bT_extract (l : List UInt8) (i j : Nat) : (bT l).extract i j = bT ((l.take j).drop i) := by
 unfold bT
 apply ByteArray.ext
 rw [ByteArray.data_extract]
 apply Array.ext'
 simp only [Array.toList_extract, List.extract_eq_take_drop]
 rw [List.drop_take]
theorem itoaB_len {p : Nat} (hp : p < 1000000000) : (itoaB (p : Int)).size ≤ 9 ∧ 0 < (itoaB (p : Int)).size := by
 have h1 := decD_len 8 p hp
 have h3 := decD_pos p
 rw [itoaB_bT, bT_size]; omega
end Go.Proofs.YtoebgfgihfjnnaaGreatDoor

namespace Go.Proofs
open Go.Shelf
def Tryz.laysM146_ren : Go.Shelf.Ren := ⟨fun | 146 => 85 | 221 => 123 | 268 => 154 | 138 => 155 | 143 => 156 | 195 => 182 | 197 => 183 | 218 => 184 | 219 => 185 | 260 => 209 | 217 => 210 | 225 => 211 | 224 => 212 | 267 => 213 | 266 => 228 | 314 => 229 | n => n, fun | 9 => 9 | 31 => 116 | 3 => 3 | 4 => 4 | 0 => 0 | 105 => 217 | 21 => 21 | 5 => 5 | 46 => 239 | 119 => 257 | 139 => 260 | 138 => 259 | 146 => 261 | 51 => 237 | n => n, fun | 1 => 0 | 3 => 4 | 4 => 5 | n => n⟩
theorem Tryz.laysM146 : Go.Proofs.LaysM.n146 Tryz.prog Tryz.laysM146_ren := {
 mixed := by kernel_rfl
 f138 := Tryz.func155.trans (congrArg some (by kernel_rfl))
 f143 := Tryz.func156.trans (congrArg some (by kernel_rfl))
 f146 := Tryz.func85.trans (congrArg some (by kernel_rfl))
 f195 := Tryz.func182.trans (congrArg some (by kernel_rfl))
 f197 := Tryz.func183.trans (congrArg some (by kernel_rfl))
 f217 := Tryz.func210.trans (congrArg some (by kernel_rfl))
 f218 := Tryz.func184.trans (congrArg some (by kernel_rfl))
 f219 := Tryz.func185.trans (congrArg some (by kernel_rfl))
 f221 := Tryz.func123.trans (congrArg some (by kernel_rfl))
 f224 := Tryz.func212.trans (congrArg some (by kernel_rfl))
 f225 := Tryz.func211.trans (congrArg some (by kernel_rfl))
 f260 := Tryz.func209.trans (congrArg some (by kernel_rfl))
 f266 := Tryz.func228.trans (congrArg some (by kernel_rfl))
 f267 := Tryz.func213.trans (congrArg some (by kernel_rfl))
 f268 := Tryz.func154.trans (congrArg some (by kernel_rfl))
 f314 := Tryz.func229.trans (congrArg some (by kernel_rfl))
 t0 := Tryz.underlying0
 a0 := Tryz.isAgg0
 z0 := Tryz.sizeOf0
 v0 := Tryz.zeroValue0
 t3 := Tryz.underlying3
 a3 := Tryz.isAgg3
 z3 := Tryz.sizeOf3
 v3 := Tryz.zeroValue3
 t4 := Tryz.underlying4
 a4 := Tryz.isAgg4
 z4 := Tryz.sizeOf4
 v4 := Tryz.zeroValue4
 t5 := Tryz.underlying5
 a5 := Tryz.isAgg5
 z5 := Tryz.sizeOf5
 v5 := Tryz.zeroValue5
 t9 := Tryz.underlying9
 a9 := Tryz.isAgg9
 z9 := Tryz.sizeOf9
 v9 := Tryz.zeroValue9
 t21 := Tryz.underlying21
 a21 := Tryz.isAgg21
 z21 := Tryz.sizeOf21
 v21 := Tryz.zeroValue21
 t31 := Tryz.underlying116
 a31 := Tryz.isAgg116
 z31 := Tryz.sizeOf116
 v31 := Tryz.zeroValue116
 t46 := Tryz.underlying239
 a46 := Tryz.isAgg239
 z46 := Tryz.sizeOf239
 v46 := Tryz.zeroValue239
 t51 := Tryz.underlying237
 a51 := Tryz.isAgg237
 z51 := Tryz.sizeOf237
 v51 := Tryz.zeroValue237
 t105 := Tryz.underlying217
 a105 := Tryz.isAgg217
 z105 := Tryz.sizeOf217
 v105 := Tryz.zeroValue217
 t119 := Tryz.underlying257
 a119 := Tryz.isAgg257
 z119 := Tryz.sizeOf257
 t138 := Tryz.underlying259
 a138 := Tryz.isAgg259
 z138 := Tryz.sizeOf259
 v138 := Tryz.zeroValue259
 t139 := Tryz.underlying260
 a139 := Tryz.isAgg260
 z139 := Tryz.sizeOf260
 v139 := Tryz.zeroValue260
 t146 := Tryz.underlying261
 a146 := Tryz.isAgg261
 z146 := Tryz.sizeOf261
 v146 := Tryz.zeroValue261
 g1 := by kernel_rfl
 g3 := by kernel_rfl
 g4 := by kernel_rfl
 i0 := by kernel_rfl
 i3 := by kernel_rfl
 i4 := by kernel_rfl
 i5 := by kernel_rfl
 i9 := by kernel_rfl
 i21 := by kernel_rfl
 i31 := by kernel_rfl
 i46 := by kernel_rfl
 i51 := by kernel_rfl
 i105 := by kernel_rfl
 i138 := by kernel_rfl
 i139 := by kernel_rfl
 i146 := by kernel_rfl
 m1 := by kernel_rfl
 s1_3 := fun w h => Go.Proofs.cell_of_shapedOpen_int (zero := #[.int .i64 0]) (t := 3) h (of_decide_eq_true (by kernel_rfl)) (by kernel_rfl) rfl (by kernel_rfl) (by kernel_rfl) Tryz.underlying3
 m3 := by kernel_rfl
 m4 := by kernel_rfl }

end Go.Proofs

namespace Go.Proofs.YtoebgfgihfjnnaaGreatDoor
open Go.RowKit
set_option maxRecDepth 100000

theorem gPowT : (Tryz.prog.globals[1]?).map (·.type) = some 236 := by kernel_rfl
/-- a row's condition lays the table. -/
theorem tabW_of {W : World} {l : List (String × DataW Unit)} (hL : laidMetH Tryz.prog l W) (he : (l.filter fun x => x.2.handleName?.isNone).filter (fun p => p.1 == "internal/strconv.uint64pow10") = [("internal/strconv.uint64pow10", Lib.tabData .u64 Lib.pow10Tab)]) : TabW W := by
 have h := (laidMetH_iff.1 hL).1.filter (fun p => p.1 == "internal/strconv.uint64pow10")
 rw [he] at h
 exact Lib.tabIs_of_head gPow gPowT Tryz.underlying236 Tryz.underlying212 kR kR h
end Go.Proofs.YtoebgfgihfjnnaaGreatDoor

namespace Go.Proofs.YtoebgfgihfjnnaaGreatDoor
open Go.RowKit Go.ChangeShapes Go.WideShapes Go.ChangeAt
set_option maxRecDepth 100000

theorem kidsP : Kids Tryz.prog (· < Tryz.prog.types.size) := kids_rows kR kR
theorem fullP : ∀ t e, t < Tryz.prog.types.size → Tryz.prog.underlying t = some (.slice e) → 0 < Tryz.prog.cellsOf e := slices_full_of Tryz.prog kR

section
variable {H : Type} {enc : TypeId × Value → H} {P : Program} {W W' : World}
theorem trodAll_carryW {base : Nat} {sp : Nat → Bool} {held : Bool} : ∀ {ts : List TypeId} {vs : List Value} {ds : List (DataW H)} {ps : List MemPlace}, DataW.TrodAll enc P W base sp held ts vs ds ps → (∀ p ∈ ps, W.sameAt W' p) → DataW.TrodAll enc P W' base sp held ts vs ds ps
 | [], [], [], _, h, _ => h
 | _ :: _, _ :: _, _ :: _, _, ⟨p, q, ⟨n, h1⟩, h2, e⟩, hs => ⟨p, q, ⟨n, DataW.trod_carry n _ _ _ h1 (fun x hx => hs x (by rw [e]; exact List.mem_append_left _ hx))⟩, trodAll_carryW h2 (fun x hx => hs x (by rw [e]; exact List.mem_append_right _ hx)), e⟩
theorem sameAt_below (hb : Below W.heap.size W W') {p : MemPlace} (h : p.block < W.heap.size) : W.sameAt W' p := by
 cases p with
 | cell b off => exact (hb.cell (p := ⟨b, off, none⟩) h)
 | map b => exact hb.block b h
theorem kept_below (hb : Below W.heap.size W W') (may : MemPlace → Prop) : W.keptBut W' may := by
 refine ⟨hb.os, hb.output, fun i hi => ?_⟩
 rw [hb.block i hi]
 cases h : W.heap[i]? with
 | none => rfl
 | some o =>
  cases o with
  | cells c t fr => exact ⟨rfl, rfl, rfl, fun _ _ => rfl⟩
  | map es clock => exact .inr ⟨rfl, rfl⟩
  | _ => rfl
/-- a law that returns true and turns nothing that was there. -/
theorem law_post {f : Func} {s : ChangeSpec} {args : Array Value} {ds gs : List (DataW H)} {before : List MemPlace} (hv : s.vars = []) (hr : f.resultTypes = #[4]) (hp : ∀ t ∈ f.params.toList, t < Tryz.prog.types.size)
   (hs : (s.fn H ds).results = [.lit (.bool true)] ∧ (s.fn H ds).args = ds ∧ (s.fn H ds).vars = [])
   (hW : DataW.Whole enc Tryz.prog f.params.toList s.vars false W args.toList ds gs before) (hb : Below W.heap.size W W') : s.post enc Tryz.prog f false true false false W args (.bool true) W' := by
 have hlt := hW.lt
 have hW' := hW
 obtain ⟨p, q, hA, hV, rfl, hfz, _⟩ := hW
 rw [hv] at hV
 have hgs : gs = [] ∧ q = [] := by
  cases gs with
  | nil => exact ⟨rfl, hV⟩
  | cons g gs => exact absurd hV id
 obtain ⟨rfl, rfl⟩ := hgs
 simp only [List.append_nil] at hlt hW' ⊢
 have hsame : ∀ p' ∈ p, W.sameAt W' p' := fun p' hp' => sameAt_below hb (hlt p' hp')
 refine ⟨ds, [], p, [], p, [], hW', ?_, ?_, ?_, kept_below hb _, fun h => by cases h⟩
 ·rw [List.append_nil, hs.1, hr]
  exact trodAll_cons_mk (shut_bool Tryz.underlying4 _) trodAll_mk0
 ·rw [List.append_nil, hs.2.1]
  exact DataW.TrodAll.respare kidsP fullP hp (trodAll_carryW hA hsame) (fun p' hp' => by simpa using hlt p' hp')
 ·rw [List.append_nil, hs.2.2, hv]
  rfl
end
end Go.Proofs.YtoebgfgihfjnnaaGreatDoor

namespace Go.Proofs.YtoebgfgihfjnnaaGreatDoor
open Go.RowKit Go.ChangeShapes Go.WideShapes Go.ChangeAt Go.Joins Go.Deep
set_option maxRecDepth 100000
theorem cellsInt : Tryz.prog.cellsOf 3 = 1 := by kernel_rfl
theorem inI_wf {x : Int} (h : (Lit.int .i64 x).wf = true) : InI x := by
 simp [Lit.wf, IntKind.min, IntKind.max, IntKind.bits, IntKind.signed] at h
 unfold InI
 omega
section
variable {H : Type} {enc : TypeId × Value → H} {W : World}
theorem ints_of_cells {a : Addr} {zs : List Int} {len cap : Nat} (hl : len ≤ cap) (hm : cap ≤ maxLen) (hz : len ≤ zs.length) (hc : ∀ i, i < zs.length → W.cell? (a.add i) = some (.int .i64 (zs.getD i 0))) : Ints W (some a) cap (zs.take len) := by
 have hlen : (zs.take len).length = len := by simp; omega
 refine ⟨cIntS, by rw [hlen]; exact hl, hm, fun h => (by cases h), fun j u hj => ?_⟩
 have hfm : ((zs.take len).flatMap fun x => (cInt x).cells.toList) = (zs.take len).map fun x => Value.int .i64 x := by
  generalize zs.take len = l
  induction l with
  | nil => rfl
  | cons x r ih => rw [List.flatMap_cons, ih]; rfl
 rw [hfm, List.getElem?_map] at hj
 have hjl : j < len := by
  obtain ⟨x, hx, _⟩ := Option.map_eq_some_iff.1 hj
  have := (List.getElem?_eq_some_iff.1 hx).1
  simp at this; omega
 have h0 := hc 0 (by omega)
 have hsp : a.spot = none := by
  unfold World.cell? Addr.add at h0
  simp only [if_pos] at h0
  split at h0
  ·split at h0
   ·cases h0
   ·next h => simpa using h
  ·cases h0
 refine ⟨a.block, a.off, by rw [← hsp], ?_⟩
 have hj0 := hc j (by omega)
 have e : a.add j = ⟨a.block, a.off + j, none⟩ := by
  unfold Addr.add
  split
  ·next h => subst h; rw [← hsp]; rfl
  ·rfl
 rw [e] at hj0
 rw [hj0, ← hj]
 have h2 : j < zs.length := by omega
 simp [List.getElem?_take, hjl, h2]
theorem open_byteA {r : Reach} {b0 : Nat} {v : Value} {d : DataW H} {ps : List MemPlace} (hval : Value.okWide Tryz.prog W r b0 5 v) (h : DataW.Trod enc Tryz.prog W 0 (fun _ => true) true 5 v d ps) : ∃ x : Int, v = .int .u8 x ∧ 0 ≤ x ∧ x ≤ 255 := by
 obtain ⟨y, rfl⟩ := okWide_int Tryz.underlying5 hval
 obtain ⟨n, hn⟩ := h
 obtain ⟨x, e, _, w0⟩ := DataW.trod_int Tryz.underlying5 hn
 simp [Value.cells] at e
 subst e
 simp [Lit.wf, IntKind.min, IntKind.max, IntKind.bits, IntKind.signed] at w0
 exact ⟨y, rfl, by omega, by omega⟩
end
end Go.Proofs.YtoebgfgihfjnnaaGreatDoor

namespace Go.Proofs.YtoebgfgihfjnnaaGreatDoor
open Go.RowKit Go.ChangeShapes Go.WideShapes Go.ChangeAt Go.Joins Go.Deep
set_option maxRecDepth 100000

section
variable {H : Type} {enc : TypeId × Value → H} {W : World}
end
end Go.Proofs.YtoebgfgihfjnnaaGreatDoor

namespace Go.Proofs.YtoebgfgihfjnnaaGreatDoor
open Go.RowKit Go.ChangeShapes Go.WideShapes Go.ChangeAt Go.Joins Go.Deep
set_option maxRecDepth 100000

section
variable {H : Type} {enc : TypeId × Value → H} {W : World}
end
end Go.Proofs.YtoebgfgihfjnnaaGreatDoor

namespace Go.Proofs.YtoebgfgihfjnnaaGreatDoor
open Go.RowKit
set_option maxRecDepth 100000

theorem spl_pos (c : UInt8) : ∀ (l cur : List UInt8), 0 < (splR c cur l).length
 | [], cur => by simp [splR]
 | b :: r, cur => by
   rw [splR]
   split
   · simp
   · exact spl_pos c r _
instance (b : UInt8) : Decidable (isDig b) := inferInstanceAs (Decidable (_ ∧ _))
instance (l : List UInt8) : Decidable (canon l) := inferInstanceAs (Decidable (_ ∧ _ ∧ _))
end Go.Proofs.YtoebgfgihfjnnaaGreatDoor

namespace Go.Proofs.YtoebgfgihfjnnaaGreatDoor
open Go.RowKit
set_option maxHeartbeats 4000000
set_option maxRecDepth 100000

end Go.Proofs.YtoebgfgihfjnnaaGreatDoor

namespace Go.Proofs.YtoebgfgihfjnnaaGreatDoor
open Go.RowKit
set_option maxHeartbeats 4000000
set_option maxRecDepth 100000

end Go.Proofs.YtoebgfgihfjnnaaGreatDoor

namespace Go.Proofs.YtoebgfgihfjnnaaGreatDoor
open Go.RowKit
set_option maxHeartbeats 4000000
set_option maxRecDepth 100000

section
variable {P : Program} {ops : Array Oper} {rest : List Oper} {a : Act} {Qa : Act → Prop} {α : Type} {c : α → Value} {sz bytes : Nat} {t e t2 e2 : TypeId} {z : Value} {ad : Option Addr} {cap : Nat} {l : List α} {k : Int} {w : World}
 {d1 d2 d3 : Tmp} {ty1 ty2 ty3 : TypeId} {p1 p2 p3 : String} {s x : Operand} {af1 af2 af3 : Array Edge} {j : Nat}
end

end Go.Proofs.YtoebgfgihfjnnaaGreatDoor

namespace Go.Proofs.YtoebgfgihfjnnaaGreatDoor
open Go.RowKit
set_option maxRecDepth 100000

theorem gSynT : (Tryz.prog.globals[2]?).map (·.type) = some 158 := by kernel_rfl
theorem gRngT : (Tryz.prog.globals[3]?).map (·.type) = some 158 := by kernel_rfl
theorem starErr : "*" ++ "errors.errorString" = "*errors.errorString" := by decide
theorem rowErr (u : TypeId) (h : Tryz.prog.typeName? 3 u = some "*errors.errorString") : u = 264 :=
 typeName_ptr_named (nm := "errors.errorString") (by rw [starErr]; kernel_rfl) kR (by decide) u (by rw [starErr]; exact h)
theorem cErr : Tryz.prog.cellsOf 266 = 1 := by kernel_rfl
theorem cStr1' : Tryz.prog.cellsOf 9 = 1 := by kernel_rfl
theorem libW_of {W : World} {l : List (String × DataW Unit)} {t1 t2 : List UInt8} (hL : laidMetH Tryz.prog l W) (hsh : W.ShapedOpen Tryz.prog)
  (h1 : (l.filter fun x => x.2.handleName?.isNone).filter (fun p => p.1 == "internal/strconv.uint64pow10") = [("internal/strconv.uint64pow10", Lib.tabData .u64 Lib.pow10Tab)])
  (h2 : (l.filter fun x => x.2.handleName?.isNone).filter (fun p => p.1 == "strconv.ErrSyntax") = [("strconv.ErrSyntax", .iface "*errors.errorString" (.ptr (.agg [.lit (.string t1)])))])
  (h3 : (l.filter fun x => x.2.handleName?.isNone).filter (fun p => p.1 == "strconv.ErrRange") = [("strconv.ErrRange", .iface "*errors.errorString" (.ptr (.agg [.lit (.string t2)])))]) : LibW W := by
 refine ⟨tabW_of hL h1, Tryz.laysM146.s1_3 W hsh, ?_, ?_⟩
 ·have h := (laidMetH_iff.1 hL).1.filter (fun p => p.1 == "strconv.ErrSyntax")
  rw [h2] at h
  obtain ⟨a, s, hv, _⟩ := laid_sentinel h gSyn gSynT Tryz.underlying158 rowErr Tryz.underlying264 Tryz.underlying266 rfl rfl Tryz.underlying9 cErr cStr1'
  exact ⟨_, _, hv⟩
 ·have h := (laidMetH_iff.1 hL).1.filter (fun p => p.1 == "strconv.ErrRange")
  rw [h3] at h
  obtain ⟨a, s, hv, _⟩ := laid_sentinel h gRng gRngT Tryz.underlying158 rowErr Tryz.underlying264 Tryz.underlying266 rfl rfl Tryz.underlying9 cErr cStr1'
  exact ⟨_, _, hv⟩
section
open Go.ChangeMaps
variable {H : Type} {enc : TypeId × Value → H} {W : World}
theorem open_strA {r : Reach} {b0 : Nat} {v : Value} {d : DataW H} {ps : List MemPlace} (hval : Value.okWide Tryz.prog W r b0 9 v) (h : DataW.Trod enc Tryz.prog W 0 (fun _ => true) true 9 v d ps) : ∃ s : ByteArray, v = .string s ∧ s.size ≤ 9223372036854775807 := by
 obtain ⟨s, rfl, _, _, hs⟩ := open_string Tryz.underlying9 hval h
 exact ⟨s, rfl, by unfold maxLen at hs; omega⟩
end
end Go.Proofs.YtoebgfgihfjnnaaGreatDoor

namespace Go.Proofs.YtoebgfgihfjnnaaGreatDoor
open Go.ChangeShapes Go.WideShapes Go.ChangeAt Go.RowKit
set_option maxRecDepth 100000
theorem ownP : ownKnob Tryz.prog.godebug = none := by kernel_rfl
end Go.Proofs.YtoebgfgihfjnnaaGreatDoor

namespace Go.Proofs.YtoebgfgihfjnnaaGreatDoor
open Go.ChangeShapes Go.WideShapes Go.ChangeAt Go.RowKit
set_option maxRecDepth 100000
theorem g1 : (laidOutB Tryz.prog) = true := by kernel_rfl
theorem g2 : (mapsRowed Tryz.prog) = true := by kernel_rfl
theorem g6 : ((Tryz.prog.stops == [])) = true := by kernel_rfl
theorem g8 : ((Tryz.prog.stopKnobs == [])) = true := by kernel_rfl
theorem g24 : (Tryz.prog.stopsHeard) = true := by kernel_rfl
theorem g25 : (Tryz.prog.mayEnter) = true := by kernel_rfl
end Go.Proofs.YtoebgfgihfjnnaaGreatDoor

namespace Go.Proofs.YtoebgfgihfjnnaaGreatDoor
open Go.RowKit Go.ChangeShapes Go.WideShapes Go.ChangeAt Go.Joins Go.Deep
set_option maxRecDepth 100000
section
variable {H : Type} {enc : TypeId × Value → H} {W : World}
theorem open_machA {r : Reach} {b0 : Nat} {v : Value} {d : DataW H} {ps : List MemPlace} (hval : Value.okWide Tryz.prog W r b0 24 v) (h : DataW.Trod enc Tryz.prog W 0 (fun _ => true) true 24 v d ps) :
  ∃ (m : MacV) (ad : Option Addr) (cap : Nat), v = mV m ad cap ∧ Ints W ad cap m.sw ∧ InI m.gears ∧ InI m.turn ∧ ∀ x ∈ m.sw, InI x := by
 obtain ⟨v0, v1, v2, v3, y0, y1, y2, y3, n, rfl, _, _, k0, k1, k2, k3⟩ := open_agg4 Tryz.underlying24 kR rfl hval h
 obtain ⟨b, e0, _⟩ := DataW.trod_bool Tryz.underlying4 k0
 obtain ⟨x, e1, _, w1⟩ := DataW.trod_int Tryz.underlying3 k1
 obtain ⟨y, e2, _, w2⟩ := DataW.trod_int Tryz.underlying3 k2
 cases e0; cases e1; cases e2
 rcases open_ints Tryz.underlying22 Tryz.underlying3 cellsInt k3 with ⟨hcs, _⟩ | ⟨a, len', cap', zs, hcs, _, hl, hm, hz, _, hcell, hwz⟩
 ·cases hcs
  exact ⟨⟨b, x, y, []⟩, none, 0, rfl, ints_nil W, inI_wf w1, inI_wf w2, fun x hx => by cases hx⟩
 ·cases hcs
  simp only [if_true] at hz
  have hlen : (zs.take len').length = len' := by simp; omega
  refine ⟨⟨b, x, y, zs.take len'⟩, some a, cap', ?_, ints_of_cells hl hm (by omega) hcell, inI_wf w1, inI_wf w2, fun x hx => ?_⟩
  ·show _ = Value.agg #[_, _, _, .slice _ (zs.take len').length _]
   rw [hlen]
  ·exact inI_wf (hwz x (List.mem_of_mem_take hx))
end
end Go.Proofs.YtoebgfgihfjnnaaGreatDoor

namespace Go.Proofs.YtoebgfgihfjnnaaGreatDoor
set_option maxRecDepth 100000
/-- the switch before. -/
def prevO (l : List Int) : Nat → Option Int
 | 0 => none
 | k + 1 => some (atD 0 l k)
theorem swGo_prev (m : MacV) (k : Nat) (h : k < m.sw.length) : swGo m (prevO m.sw k) (m.sw.drop k) = if sharedM m (atD 0 m.sw k) = false then 10 else if 0 < k ∧ atD 0 m.sw k ≤ atD 0 m.sw ((k : Int) - 1) then 11 else swGo m (prevO m.sw (k + 1)) (m.sw.drop (k + 1)) := by
 rw [swGo_step m k h]
 cases k with
 | zero => simp [prevO]
 | succ j =>
  have : ((j + 1 : Nat) : Int) - 1 = j := by omega
  rw [this]
  simp only [prevO, Nat.zero_lt_succ, true_and]
end Go.Proofs.YtoebgfgihfjnnaaGreatDoor

namespace Go.Proofs.YtoebgfgihfjnnaaGreatDoor
open Go.RowKit
set_option maxHeartbeats 2000000
set_option maxRecDepth 100000

theorem A_rmach : Aggr Tryz.prog 25 := ⟨_, Tryz.underlying25, rfl⟩
theorem rOutside_any (n lo hi : Int) (w : World) :
  Calls Tryz.prog 26 #[.int .i64 n, .int .i64 lo, .int .i64 hi] w fun r w' => r = .returned (.bool (decide (n < lo) || decide (hi < n))) ∧ w = w' := by
 by_cases h : n < lo
 ·go_enter Tryz.func26, Tryz.ntmps26
  go_wp2_with fail
  go_ret
  exact ⟨by simp [h], rfl⟩
 ·go_enter Tryz.func26, Tryz.ntmps26
  go_wp2_with fail
  go_ret
  exact ⟨by rw [show decide (n < lo) = false by simpa using h]; rfl, rfl⟩
theorem rShort_any (m : MacV) (ad : Option Addr) (cap : Nat) (al : Option Addr) (cl n : Nat) (w : World) :
  Calls Tryz.prog 12 #[mV m ad cap, .slice al n cl] w fun r w' => r = .returned (.bool (decide (m.sw.length ≤ 19) && decide (n ≤ 67))) ∧ Below w.heap.size w w' := by
 by_cases h : m.sw.length ≤ 19
 ·have h2 : (m.sw.length : Int) ≤ 19 := by omega
  by_cases k : n ≤ 67
  ·have k2 : (n : Int) ≤ 67 := by omega
   go_enter Tryz.func12, Tryz.ntmps12
   go_wp2_with fail
   go_ret
   exact ⟨by simp [h, k, h2, k2], bal (Below.refl _ _) _⟩
  ·have k2 : ¬ (n : Int) ≤ 67 := by omega
   go_enter Tryz.func12, Tryz.ntmps12
   go_wp2_with fail
   go_ret
   exact ⟨by simp [h, k, h2, k2], bal (Below.refl _ _) _⟩
 ·have h2 : ¬ (m.sw.length : Int) ≤ 19 := by omega
  go_enter Tryz.func12, Tryz.ntmps12
  go_wp2_with fail
  go_ret
  exact ⟨by simp [h, h2], bal (Below.refl _ _) _⟩
theorem rShared_any (m : MacV) (ad : Option Addr) (cap : Nat) (p : Int) (w : World) (h0 : 1 ≤ m.gears) (h1 : m.gears ≤ 16) :
  Calls Tryz.prog 87 #[mV m ad cap, .int .i64 p] w fun r w' => r = .returned (.bool (sharedM m p)) ∧ Below w.heap.size w w' := by
 have hw : IntKind.i64.wrap (m.gears - 1) = m.gears - 1 := IntWalk.i64_in _ (by omega)
 have hS := (SL.nil w).box (.cells (mC m ad cap) 25)
 cases hr : m.ring
 ·have hs : sharedM m p = !(decide (p < 1) || decide (m.gears - 1 < p)) := by
   unfold sharedM
   rw [hr, Bool.eq_iff_iff]
   simp
   omega
  obtain ⟨b, hb⟩ : ∃ b, b = (decide (p < 1) || decide (m.gears - 1 < p)) := ⟨_, rfl⟩
  have CO := fun w => rOutside_any p 1 (m.gears - 1) w
  rw [← hb] at CO hs
  have HS := hid hs; have HO := hid CO
  clear hs CO hb
  unfold mV
  rw [hr]
  clear hr
  go_enter Tryz.func87, Tryz.ntmps87
  go_wp2_with fail
  refine (HO.out _).mono ?_
  rintro e w1 ⟨rfl, rfl⟩
  go_wp2_with fail
  go_ret
  exact ⟨by rw [HS.out]; rfl, bal (Below.refl _ _) _⟩
 ·have hs : sharedM m p = !(decide (p < 0) || decide (m.gears - 1 < p)) := by
   unfold sharedM
   rw [hr, Bool.eq_iff_iff]
   simp
   omega
  obtain ⟨b, hb⟩ : ∃ b, b = (decide (p < 0) || decide (m.gears - 1 < p)) := ⟨_, rfl⟩
  have CO := fun w => rOutside_any p 0 (m.gears - 1) w
  rw [← hb] at CO hs
  have HS := hid hs; have HO := hid CO
  clear hs CO hb
  unfold mV
  rw [hr]
  clear hr
  go_enter Tryz.func87, Tryz.ntmps87
  go_wp2_with fail
  refine (HO.out _).mono ?_
  rintro e w1 ⟨rfl, rfl⟩
  go_wp2_with fail
  go_ret
  exact ⟨by rw [HS.out]; rfl, bal (Below.refl _ _) _⟩
end Go.Proofs.YtoebgfgihfjnnaaGreatDoor

namespace Go.Proofs.YtoebgfgihfjnnaaGreatDoor
open Go.RowKit
set_option maxHeartbeats 4000000
set_option maxRecDepth 100000
section
variable {P : Program} {ops : Array Oper} {rest : List Oper} {a : Act} {Qa : Act → Prop} {α : Type} {c : α → Value} {sz bytes : Nat} {t e : TypeId} {z : Value} {ad : Option Addr} {cap : Nat} {l : List α} {k : Int} {w : World}
 {d1 d2 : Tmp} {ty1 ty2 : TypeId} {p1 p2 : String} {s x : Operand} {af1 af2 : Array Edge} {g1 g2 : Option (Nat × Bool)}
theorem wpB_idxW (d : α) (E : ETy P t e z sz bytes) (hF : Flat P e) (hc : ∀ x, (c x).cells = #[c x])
   {n : Nat} (hs : a.eval s = .slice ad n cap) (hn : l.length = n) (hx : a.eval x = .int .i64 k) (hR : Reps c sz w ad cap l) (h0 : 0 ≤ k) (hlt : k < l.length) (hd : ∀ p, (a.put (some d1) p).eval (.tmp d1) = p)
   (hw1 : Region.wanted ⟨some d1, .indexAddr t s x, ty1, p1, af1, g1⟩ (yielded ops a.tmps) = true) (hw2 : ∀ p, Region.wanted ⟨some d2, .load e (.tmp d1), ty2, p2, af2, g2⟩ (yielded ops (a.put (some d1) p).tmps) = true)
   (hK : ∀ p, wpQuiet P ops (Below w.heap.size w) Qa rest ((a.put (some d1) p).put (some d2) (c (atD d l k)))) :
   wpQuiet P ops (Below w.heap.size w) Qa (⟨some d1, .indexAddr t s x, ty1, p1, af1, g1⟩ :: ⟨some d2, .load e (.tmp d1), ty2, p2, af2, g2⟩ :: rest) a := by
 subst hn
 have hkl : k.toNat < l.length := by omega
 obtain ⟨b, o, rfl, hcs⟩ := hR.cells E.pos d k.toNat hkl
 have hcell := hcs 0 (c (atD d l k)) (by rw [show l.getD k.toNat d = atD d l k from rfl, hc]; rfl)
 refine wpQ_inG (.pointer (some ((⟨b, o, none⟩ : Addr).add (k.toNat * sz)))) hw1 (fun w' hw' => ?_) (wpQ_inG (c (atD d l k)) (hw2 _) (fun w' hw' => ?_) (hK _))
 ·have h1 := run_indexAt_sl (P := P) (a := ⟨b, o, none⟩) (cap := cap) w' E h0 hlt
  simp [execOp, hs, hx, h1, Result.andThen]
 ·have h2 := run_loadAt_cell (P := P) w' (a := (⟨b, o, none⟩ : Addr).add (k.toNat * sz)) (v := c (atD d l k)) hF (by
   rw [Addr.add_z]
   exact (hw'.cell (World.block_lt_of_cell? w _ hcell)).trans hcell)
  simp [execOp, hd, h2, Result.andThen]
end
theorem rCheckMachine_any (m : MacV) (ad : Option Addr) (cap : Nat) (w : World) (hR : Ints w ad cap m.sw) :
  Calls Tryz.prog 32 #[mV m ad cap] w fun r w' => r = .returned (.int .i64 (macE m)) ∧ Below w.heap.size w w' := by
 have hcap := hR.le
 have hmx := hR.max
 have hlen : m.sw.length ≤ 9223372036854775807 := by have := hR.max; unfold maxLen at this; omega
 have CS := fun (p : Int) w a b => rShared_any m ad cap p w a b
 have hE : macE m = if m.gears < 1 ∨ 16 < m.gears then 3 else if m.ring = true ∧ m.gears % 2 = 1 then 17 else if m.turn ≠ 1 ∧ m.turn ≠ -1 then 3 else if m.gears < m.sw.length then 5 else swGo m none m.sw := rfl
 have SW := fun (k : Nat) (h : k < m.sw.length) => swGo_prev m k h
 obtain ⟨E, hEE⟩ : ∃ E, E = macE m := ⟨_, rfl⟩
 obtain ⟨sg, hsg⟩ : ∃ sg : Nat → Int, ∀ k, sg k = swGo m (prevO m.sw k) (m.sw.drop k) := ⟨_, fun _ => rfl⟩
 obtain ⟨sh, hsh⟩ : ∃ sh : Int → Bool, ∀ p, sh p = sharedM m p := ⟨_, fun _ => rfl⟩
 have hs0 : swGo m none m.sw = sg 0 := (hsg 0).symm
 have hsE : sg m.sw.length = 0 := by rw [hsg, List.drop_length]; rfl
 rw [← hEE] at hE ⊢
 rw [hs0] at hE
 simp only [← hsg, ← hsh] at SW CS
 clear hs0 hsg hsh hEE
 obtain ⟨R, G, T, S⟩ := m
 dsimp only at *
 have HCS := hid CS; have HSW := hid SW; have HSE := hid hsE
 clear CS SW hsE
 have CO := fun w => rOutside_any G 1 16 w
 by_cases hA : G < 1 ∨ 16 < G
 ·rw [if_pos hA] at hE
  have hb : (decide (G < 1) || decide (16 < G)) = true := by simpa using hA
  rw [hb] at CO
  have HO := hid CO
  clear CO hb hA
  subst hE
  go_enter Tryz.func32, Tryz.ntmps32
  go_wp2_with fail
  refine (HO.out _).mono ?_
  rintro e w1 ⟨rfl, rfl⟩
  go_wp2_with fail
  go_ret
  exact ⟨rfl, bal (Below.refl _ _) _⟩
 ·rw [if_neg hA] at hE
  have hb : (decide (G < 1) || decide (16 < G)) = false := by simp; omega
  rw [hb] at CO
  have HO := hid CO
  have g1 : 1 ≤ G := by omega
  have g2 : G ≤ 16 := by omega
  have HCS' := hid (fun p w => HCS.out p w g1 g2)
  clear CO hb HCS hA
  obtain ⟨q, hq⟩ : ∃ q, q = G % 2 := ⟨_, rfl⟩
  have htm : G.tmod 2 = q := by rw [hq, Int.tmod_eq_emod_of_nonneg (by omega)]
  rw [← hq] at hE
  have hq01 : 0 ≤ q ∧ q < 2 := by omega
  clear hq
  have hS := (SL.nil w).box (.cells #[.bool R, .int .i64 G, .int .i64 T, .slice ad S.length cap] 25)
  by_cases h17 : R = true ∧ q = 1
  ·rw [if_pos h17] at hE
   obtain ⟨rfl, rfl⟩ := h17
   subst hE
   go_enter Tryz.func32, Tryz.ntmps32
   go_wp2_with fail
   refine (HO.out _).mono ?_
   rintro e w1 ⟨rfl, rfl⟩
   go_wp2_with fail
   go_ret
   exact ⟨rfl, bal (Below.refl _ _) _⟩
  ·rw [if_neg h17] at hE
   have hRq : (R = true ∧ (q == 1) = false) ∨ R = false := by
    cases R
    ·exact .inr rfl
    ·exact .inl ⟨rfl, by simpa using h17⟩
   clear h17
   by_cases hT : T ≠ 1 ∧ T ≠ -1
   ·rw [if_pos hT] at hE
    have t1 : (T != 1) = true := by simpa using hT.1
    have t2 : (T != -1) = true := by simpa using hT.2
    clear hT
    subst hE
    rcases hRq with ⟨rfl, hq1⟩ | rfl
    all_goals
     go_enter Tryz.func32, Tryz.ntmps32
     go_wp2_with fail
     refine (HO.out _).mono ?_
     rintro e w1 ⟨rfl, rfl⟩
     go_wp2_with fail
     go_ret
     exact ⟨rfl, bal (Below.refl _ _) _⟩
   ·rw [if_neg hT] at hE
    have hT2 : T = 1 ∨ T = -1 := by omega
    clear hT
    by_cases hL : G < S.length
    ·rw [if_pos hL] at hE
     subst hE
     rcases hRq with ⟨rfl, hq1⟩ | rfl <;> rcases hT2 with rfl | rfl
     all_goals
      go_enter Tryz.func32, Tryz.ntmps32
      go_wp2_with fail
      refine (HO.out _).mono ?_
      rintro e w1 ⟨rfl, rfl⟩
      go_wp2_with fail
      go_ret
      exact ⟨rfl, bal (Below.refl _ _) _⟩
    ·rw [if_neg hL] at hE
     have HE := hid hE
     clear hE
     have hS16 : S.length ≤ 16 := by omega
     rcases hRq with ⟨rfl, hq1⟩ | rfl <;> rcases hT2 with rfl | rfl
     ·go_enter Tryz.func32, Tryz.ntmps32
      go_wp2_with fail
      refine (HO.out _).mono ?_
      rintro e w1 ⟨rfl, rfl⟩
      go_wp2_with fail
      go_loopw [3] (fun i wr => ∃ k : Nat, k ≤ S.length ∧ i = .int .i64 k ∧ sg k = sg 0 ∧ SL w.heap.size w wr [pBlk w.heap.size (.cells #[.bool true, .int .i64 G, .int .i64 1, .slice ad S.length cap] 25)]) (fun i _ => S.length - (intOf i).toNat)
      case atStart => exact ⟨0, by omega, rfl, rfl, hS⟩
      case round =>
       clear hS
       obtain ⟨k, hk, rfl, hgo, hSr⟩ := hrel
       have q1 := (hSr.blk 0 rfl).1
       have hRr := hR.below hSr.b
       by_cases hlt : k < S.length
       ·have hst := HSW.out k hlt
        rw [hgo] at hst
        obtain ⟨x, hx⟩ : ∃ x, x = atD 0 S k := ⟨_, rfl⟩
        rw [← hx] at hst
        obtain ⟨b, hb⟩ : ∃ b, b = sh x := ⟨_, rfl⟩
        have CS := fun w => HCS'.out x w
        rw [← hb] at hst CS
        have HX := hid hx; have HC := hid CS
        clear hx hb CS hgo
        cases b
        ·rw [if_pos rfl] at hst
         have HST := hid hst
         clear hst
         go_wp2_with (with_reducible refine wpList_ldB F_sliceM wU wU q1 wU ?_)
         refine wp_region_q kR kR ?_
         repeat (first | ((with_reducible refine wpB_loadS (n := 4) (us := #[.bool true, .int .i64 G, .int .i64 1, .slice ad S.length cap]) A_rmach kR wU wU (by assumption) wU wU ?_); (try simp only [Act.put, pA, pB, pC])) | ((with_reducible refine wpB_load F_sliceM wU wU (by assumption) wU ?_); (try simp only [Act.put, pA, pB, pC])) | (((with_reducible refine wpB_idx2 0 E_ints F_int cInt1 wU (rfl) wU (hRr) oD oD (fun _ => wU) (fun _ => ?_)); (try simp only [Act.put, pA, pB, pC]); (try simp only [cInt])); rw [← HX.out]) | ((refine wpB_call (.bool false) wU (fun w' => ?_) (fun w' hw' => HC.out w') ?_); (focus (go_simp; done)); (try simp only [Act.put, pA, pB, pC])) |  ((with_reducible refine wpB_load (by first | exact F_int | exact F_u64s) wU wU (by assumption) wU ?_); (try simp only [Act.put, pA, pB, pC])) | ((refine wpQ_oneG ?_ wU (fun w' => ?_) ?_); rotate_left; (go_simp; rfl); (try simp only [Act.put, pA, pB, pC])))
         refine wpQuiet_nil ?_
         intro w4 hb4
         go_wp2_with fail
         go_ret
         exact ⟨by rw [HE.out, HST.out]; rfl, bnext hSr.b hb4⟩
        ·rw [if_neg (by decide)] at hst
         by_cases hk0 : k = 0
         ·have hst2 : sg (k + 1) = sg 0 := by rw [hst, if_neg (by omega)]
          have hd : decide (0 < k) = false := by simp; omega
          have HST := hid hst2
          clear hst hst2 hk0
          go_wp2_with (with_reducible refine wpList_ldB F_sliceM wU wU q1 wU ?_)
          refine wp_region_q kR kR ?_
          repeat (first | ((with_reducible refine wpB_loadS (n := 4) (us := #[.bool true, .int .i64 G, .int .i64 1, .slice ad S.length cap]) A_rmach kR wU wU (by assumption) wU wU ?_); (try simp only [Act.put, pA, pB, pC])) | ((with_reducible refine wpB_load F_sliceM wU wU (by assumption) wU ?_); (try simp only [Act.put, pA, pB, pC])) | (((with_reducible refine wpB_idx2 0 E_ints F_int cInt1 wU (rfl) wU (hRr) oD oD (fun _ => wU) (fun _ => ?_)); (try simp only [Act.put, pA, pB, pC]); (try simp only [cInt])); rw [← HX.out]) | ((refine wpB_call (.bool true) wU (fun w' => ?_) (fun w' hw' => HC.out w') ?_); (focus (go_simp; done)); (try simp only [Act.put, pA, pB, pC])) |  ((with_reducible refine wpB_load (by first | exact F_int | exact F_u64s) wU wU (by assumption) wU ?_); (try simp only [Act.put, pA, pB, pC])) | ((refine wpQ_oneG ?_ wU (fun w' => ?_) ?_); rotate_left; (go_simp; rfl); (try simp only [Act.put, pA, pB, pC])))
          refine wpQuiet_nil ?_
          intro w4 hb4
          have hS4 := hSr.mono hb4
          have q4 := (hS4.blk 0 rfl).1
          go_wp2_with fail
          refine wp_region_q kR kR ?_
          repeat (first | ((try simp only [hd]); ((with_reducible refine wpQ_skip wU ?_); (try simp only [Act.put, pA, pB, pC]))) |  ((with_reducible refine wpB_load (by first | exact F_int | exact F_u64s) wU wU (by assumption) wU ?_); (try simp only [Act.put, pA, pB, pC])) | ((refine wpQ_oneG ?_ wU (fun w' => ?_) ?_); rotate_left; (go_simp; rfl); (try simp only [Act.put, pA, pB, pC])))
          refine wpQuiet_nil ?_
          intro w5 hb5
          have hS5 := hS4.mono hb5
          go_wp2_with fail
          exact ⟨⟨k + 1, by omega, by go_num, HST.out, hS5⟩, by simp [intOf]; omega⟩
         ·have hd : decide (0 < k) = true := by simp; omega
          have hk1 : 0 ≤ (k : Int) - 1 ∧ (k : Int) - 1 < S.length := by omega
          have hwk : IntKind.i64.wrap ((k : Int) - 1) = (k : Int) - 1 := IntWalk.i64_in _ (by omega)
          obtain ⟨y, hy⟩ : ∃ y, y = atD 0 S ((k : Int) - 1) := ⟨_, rfl⟩
          rw [← hy] at hst
          have HY := hid hy
          clear hy
          by_cases hxy : x ≤ y
          ·rw [if_pos ⟨by omega, hxy⟩] at hst
           have HST := hid hst
           have hdx : decide (x ≤ y) = true := decide_eq_true hxy
           clear hst hk0
           go_wp2_with (with_reducible refine wpList_ldB F_sliceM wU wU q1 wU ?_)
           refine wp_region_q kR kR ?_
           repeat (first | ((with_reducible refine wpB_loadS (n := 4) (us := #[.bool true, .int .i64 G, .int .i64 1, .slice ad S.length cap]) A_rmach kR wU wU (by assumption) wU wU ?_); (try simp only [Act.put, pA, pB, pC])) | ((with_reducible refine wpB_load F_sliceM wU wU (by assumption) wU ?_); (try simp only [Act.put, pA, pB, pC])) | (((with_reducible refine wpB_idx2 0 E_ints F_int cInt1 wU (rfl) wU (hRr) oD oD (fun _ => wU) (fun _ => ?_)); (try simp only [Act.put, pA, pB, pC]); (try simp only [cInt])); rw [← HX.out]) | ((refine wpB_call (.bool true) wU (fun w' => ?_) (fun w' hw' => HC.out w') ?_); (focus (go_simp; done)); (try simp only [Act.put, pA, pB, pC])) |  ((with_reducible refine wpB_load (by first | exact F_int | exact F_u64s) wU wU (by assumption) wU ?_); (try simp only [Act.put, pA, pB, pC])) | ((refine wpQ_oneG ?_ wU (fun w' => ?_) ?_); rotate_left; (go_simp; rfl); (try simp only [Act.put, pA, pB, pC])))
           refine wpQuiet_nil ?_
           intro w4 hb4
           have hS4 := hSr.mono hb4
           have q4 := (hS4.blk 0 rfl).1
           have hR4 := hR.below hS4.b
           clear q1
           go_wp2_with fail
           refine wp_region_q kR kR ?_
           repeat (first | ((try simp only [hd]); ((with_reducible refine wpB_load F_sliceM wU wU (by assumption) wU ?_); (try simp only [Act.put, pA, pB, pC]))) | (((with_reducible refine wpB_idxW 0 E_ints F_int cInt1 wU (rfl) wU (hR4) oD oD (fun _ => wU) wU (fun _ => wU) (fun _ => ?_)); (try simp only [Act.put, pA, pB, pC]); (try simp only [cInt])); first | rw [← HX.out] | rw [← HY.out]) |  ((with_reducible refine wpB_load (by first | exact F_int | exact F_u64s) wU wU (by assumption) wU ?_); (try simp only [Act.put, pA, pB, pC])) | ((refine wpQ_oneG ?_ wU (fun w' => ?_) ?_); rotate_left; (go_simp; rfl); (try simp only [Act.put, pA, pB, pC])))
           refine wpQuiet_nil ?_
           intro w5 hb5
           go_wp2_with fail
           go_ret
           exact ⟨by rw [HE.out, HST.out]; rfl, bnext hS4.b hb5⟩
          ·rw [if_neg (fun h => hxy h.2)] at hst
           have HST := hid hst
           have hdx : decide (x ≤ y) = false := decide_eq_false hxy
           clear hst hk0
           go_wp2_with (with_reducible refine wpList_ldB F_sliceM wU wU q1 wU ?_)
           refine wp_region_q kR kR ?_
           repeat (first | ((with_reducible refine wpB_loadS (n := 4) (us := #[.bool true, .int .i64 G, .int .i64 1, .slice ad S.length cap]) A_rmach kR wU wU (by assumption) wU wU ?_); (try simp only [Act.put, pA, pB, pC])) | ((with_reducible refine wpB_load F_sliceM wU wU (by assumption) wU ?_); (try simp only [Act.put, pA, pB, pC])) | (((with_reducible refine wpB_idx2 0 E_ints F_int cInt1 wU (rfl) wU (hRr) oD oD (fun _ => wU) (fun _ => ?_)); (try simp only [Act.put, pA, pB, pC]); (try simp only [cInt])); rw [← HX.out]) | ((refine wpB_call (.bool true) wU (fun w' => ?_) (fun w' hw' => HC.out w') ?_); (focus (go_simp; done)); (try simp only [Act.put, pA, pB, pC])) |  ((with_reducible refine wpB_load (by first | exact F_int | exact F_u64s) wU wU (by assumption) wU ?_); (try simp only [Act.put, pA, pB, pC])) | ((refine wpQ_oneG ?_ wU (fun w' => ?_) ?_); rotate_left; (go_simp; rfl); (try simp only [Act.put, pA, pB, pC])))
           refine wpQuiet_nil ?_
           intro w4 hb4
           have hS4 := hSr.mono hb4
           have q4 := (hS4.blk 0 rfl).1
           have hR4 := hR.below hS4.b
           clear q1
           go_wp2_with fail
           refine wp_region_q kR kR ?_
           repeat (first | ((try simp only [hd]); ((with_reducible refine wpB_load F_sliceM wU wU (by assumption) wU ?_); (try simp only [Act.put, pA, pB, pC]))) | (((with_reducible refine wpB_idxW 0 E_ints F_int cInt1 wU (rfl) wU (hR4) oD oD (fun _ => wU) wU (fun _ => wU) (fun _ => ?_)); (try simp only [Act.put, pA, pB, pC]); (try simp only [cInt])); first | rw [← HX.out] | rw [← HY.out]) |  ((with_reducible refine wpB_load (by first | exact F_int | exact F_u64s) wU wU (by assumption) wU ?_); (try simp only [Act.put, pA, pB, pC])) | ((refine wpQ_oneG ?_ wU (fun w' => ?_) ?_); rotate_left; (go_simp; rfl); (try simp only [Act.put, pA, pB, pC])))
           refine wpQuiet_nil ?_
           intro w5 hb5
           have hS5 := hS4.mono hb5
           go_wp2_with fail
           exact ⟨⟨k + 1, by omega, by go_num, HST.out.symm, hS5⟩, by simp [intOf]; omega⟩
       ·have hkn : k = S.length := by omega
        subst hkn
        have he : E = 0 := by rw [HE.out, ← hgo, HSE.out]
        have HEE := hid he
        clear he hgo
        go_wp2_with (with_reducible refine wpList_ldB F_sliceM wU wU q1 wU ?_)
        go_ret
        exact ⟨by rw [HEE.out]; rfl, hSr.b⟩
     ·go_enter Tryz.func32, Tryz.ntmps32
      go_wp2_with fail
      refine (HO.out _).mono ?_
      rintro e w1 ⟨rfl, rfl⟩
      go_wp2_with fail
      go_loopw [3] (fun i wr => ∃ k : Nat, k ≤ S.length ∧ i = .int .i64 k ∧ sg k = sg 0 ∧ SL w.heap.size w wr [pBlk w.heap.size (.cells #[.bool true, .int .i64 G, .int .i64 (-1), .slice ad S.length cap] 25)]) (fun i _ => S.length - (intOf i).toNat)
      case atStart => exact ⟨0, by omega, rfl, rfl, hS⟩
      case round =>
       clear hS
       obtain ⟨k, hk, rfl, hgo, hSr⟩ := hrel
       have q1 := (hSr.blk 0 rfl).1
       have hRr := hR.below hSr.b
       by_cases hlt : k < S.length
       ·have hst := HSW.out k hlt
        rw [hgo] at hst
        obtain ⟨x, hx⟩ : ∃ x, x = atD 0 S k := ⟨_, rfl⟩
        rw [← hx] at hst
        obtain ⟨b, hb⟩ : ∃ b, b = sh x := ⟨_, rfl⟩
        have CS := fun w => HCS'.out x w
        rw [← hb] at hst CS
        have HX := hid hx; have HC := hid CS
        clear hx hb CS hgo
        cases b
        ·rw [if_pos rfl] at hst
         have HST := hid hst
         clear hst
         go_wp2_with (with_reducible refine wpList_ldB F_sliceM wU wU q1 wU ?_)
         refine wp_region_q kR kR ?_
         repeat (first | ((with_reducible refine wpB_loadS (n := 4) (us := #[.bool true, .int .i64 G, .int .i64 (-1), .slice ad S.length cap]) A_rmach kR wU wU (by assumption) wU wU ?_); (try simp only [Act.put, pA, pB, pC])) | ((with_reducible refine wpB_load F_sliceM wU wU (by assumption) wU ?_); (try simp only [Act.put, pA, pB, pC])) | (((with_reducible refine wpB_idx2 0 E_ints F_int cInt1 wU (rfl) wU (hRr) oD oD (fun _ => wU) (fun _ => ?_)); (try simp only [Act.put, pA, pB, pC]); (try simp only [cInt])); rw [← HX.out]) | ((refine wpB_call (.bool false) wU (fun w' => ?_) (fun w' hw' => HC.out w') ?_); (focus (go_simp; done)); (try simp only [Act.put, pA, pB, pC])) |  ((with_reducible refine wpB_load (by first | exact F_int | exact F_u64s) wU wU (by assumption) wU ?_); (try simp only [Act.put, pA, pB, pC])) | ((refine wpQ_oneG ?_ wU (fun w' => ?_) ?_); rotate_left; (go_simp; rfl); (try simp only [Act.put, pA, pB, pC])))
         refine wpQuiet_nil ?_
         intro w4 hb4
         go_wp2_with fail
         go_ret
         exact ⟨by rw [HE.out, HST.out]; rfl, bnext hSr.b hb4⟩
        ·rw [if_neg (by decide)] at hst
         by_cases hk0 : k = 0
         ·have hst2 : sg (k + 1) = sg 0 := by rw [hst, if_neg (by omega)]
          have hd : decide (0 < k) = false := by simp; omega
          have HST := hid hst2
          clear hst hst2 hk0
          go_wp2_with (with_reducible refine wpList_ldB F_sliceM wU wU q1 wU ?_)
          refine wp_region_q kR kR ?_
          repeat (first | ((with_reducible refine wpB_loadS (n := 4) (us := #[.bool true, .int .i64 G, .int .i64 (-1), .slice ad S.length cap]) A_rmach kR wU wU (by assumption) wU wU ?_); (try simp only [Act.put, pA, pB, pC])) | ((with_reducible refine wpB_load F_sliceM wU wU (by assumption) wU ?_); (try simp only [Act.put, pA, pB, pC])) | (((with_reducible refine wpB_idx2 0 E_ints F_int cInt1 wU (rfl) wU (hRr) oD oD (fun _ => wU) (fun _ => ?_)); (try simp only [Act.put, pA, pB, pC]); (try simp only [cInt])); rw [← HX.out]) | ((refine wpB_call (.bool true) wU (fun w' => ?_) (fun w' hw' => HC.out w') ?_); (focus (go_simp; done)); (try simp only [Act.put, pA, pB, pC])) |  ((with_reducible refine wpB_load (by first | exact F_int | exact F_u64s) wU wU (by assumption) wU ?_); (try simp only [Act.put, pA, pB, pC])) | ((refine wpQ_oneG ?_ wU (fun w' => ?_) ?_); rotate_left; (go_simp; rfl); (try simp only [Act.put, pA, pB, pC])))
          refine wpQuiet_nil ?_
          intro w4 hb4
          have hS4 := hSr.mono hb4
          have q4 := (hS4.blk 0 rfl).1
          go_wp2_with fail
          refine wp_region_q kR kR ?_
          repeat (first | ((try simp only [hd]); ((with_reducible refine wpQ_skip wU ?_); (try simp only [Act.put, pA, pB, pC]))) |  ((with_reducible refine wpB_load (by first | exact F_int | exact F_u64s) wU wU (by assumption) wU ?_); (try simp only [Act.put, pA, pB, pC])) | ((refine wpQ_oneG ?_ wU (fun w' => ?_) ?_); rotate_left; (go_simp; rfl); (try simp only [Act.put, pA, pB, pC])))
          refine wpQuiet_nil ?_
          intro w5 hb5
          have hS5 := hS4.mono hb5
          go_wp2_with fail
          exact ⟨⟨k + 1, by omega, by go_num, HST.out, hS5⟩, by simp [intOf]; omega⟩
         ·have hd : decide (0 < k) = true := by simp; omega
          have hk1 : 0 ≤ (k : Int) - 1 ∧ (k : Int) - 1 < S.length := by omega
          have hwk : IntKind.i64.wrap ((k : Int) - 1) = (k : Int) - 1 := IntWalk.i64_in _ (by omega)
          obtain ⟨y, hy⟩ : ∃ y, y = atD 0 S ((k : Int) - 1) := ⟨_, rfl⟩
          rw [← hy] at hst
          have HY := hid hy
          clear hy
          by_cases hxy : x ≤ y
          ·rw [if_pos ⟨by omega, hxy⟩] at hst
           have HST := hid hst
           have hdx : decide (x ≤ y) = true := decide_eq_true hxy
           clear hst hk0
           go_wp2_with (with_reducible refine wpList_ldB F_sliceM wU wU q1 wU ?_)
           refine wp_region_q kR kR ?_
           repeat (first | ((with_reducible refine wpB_loadS (n := 4) (us := #[.bool true, .int .i64 G, .int .i64 (-1), .slice ad S.length cap]) A_rmach kR wU wU (by assumption) wU wU ?_); (try simp only [Act.put, pA, pB, pC])) | ((with_reducible refine wpB_load F_sliceM wU wU (by assumption) wU ?_); (try simp only [Act.put, pA, pB, pC])) | (((with_reducible refine wpB_idx2 0 E_ints F_int cInt1 wU (rfl) wU (hRr) oD oD (fun _ => wU) (fun _ => ?_)); (try simp only [Act.put, pA, pB, pC]); (try simp only [cInt])); rw [← HX.out]) | ((refine wpB_call (.bool true) wU (fun w' => ?_) (fun w' hw' => HC.out w') ?_); (focus (go_simp; done)); (try simp only [Act.put, pA, pB, pC])) |  ((with_reducible refine wpB_load (by first | exact F_int | exact F_u64s) wU wU (by assumption) wU ?_); (try simp only [Act.put, pA, pB, pC])) | ((refine wpQ_oneG ?_ wU (fun w' => ?_) ?_); rotate_left; (go_simp; rfl); (try simp only [Act.put, pA, pB, pC])))
           refine wpQuiet_nil ?_
           intro w4 hb4
           have hS4 := hSr.mono hb4
           have q4 := (hS4.blk 0 rfl).1
           have hR4 := hR.below hS4.b
           clear q1
           go_wp2_with fail
           refine wp_region_q kR kR ?_
           repeat (first | ((try simp only [hd]); ((with_reducible refine wpB_load F_sliceM wU wU (by assumption) wU ?_); (try simp only [Act.put, pA, pB, pC]))) | (((with_reducible refine wpB_idxW 0 E_ints F_int cInt1 wU (rfl) wU (hR4) oD oD (fun _ => wU) wU (fun _ => wU) (fun _ => ?_)); (try simp only [Act.put, pA, pB, pC]); (try simp only [cInt])); first | rw [← HX.out] | rw [← HY.out]) |  ((with_reducible refine wpB_load (by first | exact F_int | exact F_u64s) wU wU (by assumption) wU ?_); (try simp only [Act.put, pA, pB, pC])) | ((refine wpQ_oneG ?_ wU (fun w' => ?_) ?_); rotate_left; (go_simp; rfl); (try simp only [Act.put, pA, pB, pC])))
           refine wpQuiet_nil ?_
           intro w5 hb5
           go_wp2_with fail
           go_ret
           exact ⟨by rw [HE.out, HST.out]; rfl, bnext hS4.b hb5⟩
          ·rw [if_neg (fun h => hxy h.2)] at hst
           have HST := hid hst
           have hdx : decide (x ≤ y) = false := decide_eq_false hxy
           clear hst hk0
           go_wp2_with (with_reducible refine wpList_ldB F_sliceM wU wU q1 wU ?_)
           refine wp_region_q kR kR ?_
           repeat (first | ((with_reducible refine wpB_loadS (n := 4) (us := #[.bool true, .int .i64 G, .int .i64 (-1), .slice ad S.length cap]) A_rmach kR wU wU (by assumption) wU wU ?_); (try simp only [Act.put, pA, pB, pC])) | ((with_reducible refine wpB_load F_sliceM wU wU (by assumption) wU ?_); (try simp only [Act.put, pA, pB, pC])) | (((with_reducible refine wpB_idx2 0 E_ints F_int cInt1 wU (rfl) wU (hRr) oD oD (fun _ => wU) (fun _ => ?_)); (try simp only [Act.put, pA, pB, pC]); (try simp only [cInt])); rw [← HX.out]) | ((refine wpB_call (.bool true) wU (fun w' => ?_) (fun w' hw' => HC.out w') ?_); (focus (go_simp; done)); (try simp only [Act.put, pA, pB, pC])) |  ((with_reducible refine wpB_load (by first | exact F_int | exact F_u64s) wU wU (by assumption) wU ?_); (try simp only [Act.put, pA, pB, pC])) | ((refine wpQ_oneG ?_ wU (fun w' => ?_) ?_); rotate_left; (go_simp; rfl); (try simp only [Act.put, pA, pB, pC])))
           refine wpQuiet_nil ?_
           intro w4 hb4
           have hS4 := hSr.mono hb4
           have q4 := (hS4.blk 0 rfl).1
           have hR4 := hR.below hS4.b
           clear q1
           go_wp2_with fail
           refine wp_region_q kR kR ?_
           repeat (first | ((try simp only [hd]); ((with_reducible refine wpB_load F_sliceM wU wU (by assumption) wU ?_); (try simp only [Act.put, pA, pB, pC]))) | (((with_reducible refine wpB_idxW 0 E_ints F_int cInt1 wU (rfl) wU (hR4) oD oD (fun _ => wU) wU (fun _ => wU) (fun _ => ?_)); (try simp only [Act.put, pA, pB, pC]); (try simp only [cInt])); first | rw [← HX.out] | rw [← HY.out]) |  ((with_reducible refine wpB_load (by first | exact F_int | exact F_u64s) wU wU (by assumption) wU ?_); (try simp only [Act.put, pA, pB, pC])) | ((refine wpQ_oneG ?_ wU (fun w' => ?_) ?_); rotate_left; (go_simp; rfl); (try simp only [Act.put, pA, pB, pC])))
           refine wpQuiet_nil ?_
           intro w5 hb5
           have hS5 := hS4.mono hb5
           go_wp2_with fail
           exact ⟨⟨k + 1, by omega, by go_num, HST.out.symm, hS5⟩, by simp [intOf]; omega⟩
       ·have hkn : k = S.length := by omega
        subst hkn
        have he : E = 0 := by rw [HE.out, ← hgo, HSE.out]
        have HEE := hid he
        clear he hgo
        go_wp2_with (with_reducible refine wpList_ldB F_sliceM wU wU q1 wU ?_)
        go_ret
        exact ⟨by rw [HEE.out]; rfl, hSr.b⟩
     ·go_enter Tryz.func32, Tryz.ntmps32
      go_wp2_with fail
      refine (HO.out _).mono ?_
      rintro e w1 ⟨rfl, rfl⟩
      go_wp2_with fail
      go_loopw [3] (fun i wr => ∃ k : Nat, k ≤ S.length ∧ i = .int .i64 k ∧ sg k = sg 0 ∧ SL w.heap.size w wr [pBlk w.heap.size (.cells #[.bool false, .int .i64 G, .int .i64 1, .slice ad S.length cap] 25)]) (fun i _ => S.length - (intOf i).toNat)
      case atStart => exact ⟨0, by omega, rfl, rfl, hS⟩
      case round =>
       clear hS
       obtain ⟨k, hk, rfl, hgo, hSr⟩ := hrel
       have q1 := (hSr.blk 0 rfl).1
       have hRr := hR.below hSr.b
       by_cases hlt : k < S.length
       ·have hst := HSW.out k hlt
        rw [hgo] at hst
        obtain ⟨x, hx⟩ : ∃ x, x = atD 0 S k := ⟨_, rfl⟩
        rw [← hx] at hst
        obtain ⟨b, hb⟩ : ∃ b, b = sh x := ⟨_, rfl⟩
        have CS := fun w => HCS'.out x w
        rw [← hb] at hst CS
        have HX := hid hx; have HC := hid CS
        clear hx hb CS hgo
        cases b
        ·rw [if_pos rfl] at hst
         have HST := hid hst
         clear hst
         go_wp2_with (with_reducible refine wpList_ldB F_sliceM wU wU q1 wU ?_)
         refine wp_region_q kR kR ?_
         repeat (first | ((with_reducible refine wpB_loadS (n := 4) (us := #[.bool false, .int .i64 G, .int .i64 1, .slice ad S.length cap]) A_rmach kR wU wU (by assumption) wU wU ?_); (try simp only [Act.put, pA, pB, pC])) | ((with_reducible refine wpB_load F_sliceM wU wU (by assumption) wU ?_); (try simp only [Act.put, pA, pB, pC])) | (((with_reducible refine wpB_idx2 0 E_ints F_int cInt1 wU (rfl) wU (hRr) oD oD (fun _ => wU) (fun _ => ?_)); (try simp only [Act.put, pA, pB, pC]); (try simp only [cInt])); rw [← HX.out]) | ((refine wpB_call (.bool false) wU (fun w' => ?_) (fun w' hw' => HC.out w') ?_); (focus (go_simp; done)); (try simp only [Act.put, pA, pB, pC])) |  ((with_reducible refine wpB_load (by first | exact F_int | exact F_u64s) wU wU (by assumption) wU ?_); (try simp only [Act.put, pA, pB, pC])) | ((refine wpQ_oneG ?_ wU (fun w' => ?_) ?_); rotate_left; (go_simp; rfl); (try simp only [Act.put, pA, pB, pC])))
         refine wpQuiet_nil ?_
         intro w4 hb4
         go_wp2_with fail
         go_ret
         exact ⟨by rw [HE.out, HST.out]; rfl, bnext hSr.b hb4⟩
        ·rw [if_neg (by decide)] at hst
         by_cases hk0 : k = 0
         ·have hst2 : sg (k + 1) = sg 0 := by rw [hst, if_neg (by omega)]
          have hd : decide (0 < k) = false := by simp; omega
          have HST := hid hst2
          clear hst hst2 hk0
          go_wp2_with (with_reducible refine wpList_ldB F_sliceM wU wU q1 wU ?_)
          refine wp_region_q kR kR ?_
          repeat (first | ((with_reducible refine wpB_loadS (n := 4) (us := #[.bool false, .int .i64 G, .int .i64 1, .slice ad S.length cap]) A_rmach kR wU wU (by assumption) wU wU ?_); (try simp only [Act.put, pA, pB, pC])) | ((with_reducible refine wpB_load F_sliceM wU wU (by assumption) wU ?_); (try simp only [Act.put, pA, pB, pC])) | (((with_reducible refine wpB_idx2 0 E_ints F_int cInt1 wU (rfl) wU (hRr) oD oD (fun _ => wU) (fun _ => ?_)); (try simp only [Act.put, pA, pB, pC]); (try simp only [cInt])); rw [← HX.out]) | ((refine wpB_call (.bool true) wU (fun w' => ?_) (fun w' hw' => HC.out w') ?_); (focus (go_simp; done)); (try simp only [Act.put, pA, pB, pC])) |  ((with_reducible refine wpB_load (by first | exact F_int | exact F_u64s) wU wU (by assumption) wU ?_); (try simp only [Act.put, pA, pB, pC])) | ((refine wpQ_oneG ?_ wU (fun w' => ?_) ?_); rotate_left; (go_simp; rfl); (try simp only [Act.put, pA, pB, pC])))
          refine wpQuiet_nil ?_
          intro w4 hb4
          have hS4 := hSr.mono hb4
          have q4 := (hS4.blk 0 rfl).1
          go_wp2_with fail
          refine wp_region_q kR kR ?_
          repeat (first | ((try simp only [hd]); ((with_reducible refine wpQ_skip wU ?_); (try simp only [Act.put, pA, pB, pC]))) |  ((with_reducible refine wpB_load (by first | exact F_int | exact F_u64s) wU wU (by assumption) wU ?_); (try simp only [Act.put, pA, pB, pC])) | ((refine wpQ_oneG ?_ wU (fun w' => ?_) ?_); rotate_left; (go_simp; rfl); (try simp only [Act.put, pA, pB, pC])))
          refine wpQuiet_nil ?_
          intro w5 hb5
          have hS5 := hS4.mono hb5
          go_wp2_with fail
          exact ⟨⟨k + 1, by omega, by go_num, HST.out, hS5⟩, by simp [intOf]; omega⟩
         ·have hd : decide (0 < k) = true := by simp; omega
          have hk1 : 0 ≤ (k : Int) - 1 ∧ (k : Int) - 1 < S.length := by omega
          have hwk : IntKind.i64.wrap ((k : Int) - 1) = (k : Int) - 1 := IntWalk.i64_in _ (by omega)
          obtain ⟨y, hy⟩ : ∃ y, y = atD 0 S ((k : Int) - 1) := ⟨_, rfl⟩
          rw [← hy] at hst
          have HY := hid hy
          clear hy
          by_cases hxy : x ≤ y
          ·rw [if_pos ⟨by omega, hxy⟩] at hst
           have HST := hid hst
           have hdx : decide (x ≤ y) = true := decide_eq_true hxy
           clear hst hk0
           go_wp2_with (with_reducible refine wpList_ldB F_sliceM wU wU q1 wU ?_)
           refine wp_region_q kR kR ?_
           repeat (first | ((with_reducible refine wpB_loadS (n := 4) (us := #[.bool false, .int .i64 G, .int .i64 1, .slice ad S.length cap]) A_rmach kR wU wU (by assumption) wU wU ?_); (try simp only [Act.put, pA, pB, pC])) | ((with_reducible refine wpB_load F_sliceM wU wU (by assumption) wU ?_); (try simp only [Act.put, pA, pB, pC])) | (((with_reducible refine wpB_idx2 0 E_ints F_int cInt1 wU (rfl) wU (hRr) oD oD (fun _ => wU) (fun _ => ?_)); (try simp only [Act.put, pA, pB, pC]); (try simp only [cInt])); rw [← HX.out]) | ((refine wpB_call (.bool true) wU (fun w' => ?_) (fun w' hw' => HC.out w') ?_); (focus (go_simp; done)); (try simp only [Act.put, pA, pB, pC])) |  ((with_reducible refine wpB_load (by first | exact F_int | exact F_u64s) wU wU (by assumption) wU ?_); (try simp only [Act.put, pA, pB, pC])) | ((refine wpQ_oneG ?_ wU (fun w' => ?_) ?_); rotate_left; (go_simp; rfl); (try simp only [Act.put, pA, pB, pC])))
           refine wpQuiet_nil ?_
           intro w4 hb4
           have hS4 := hSr.mono hb4
           have q4 := (hS4.blk 0 rfl).1
           have hR4 := hR.below hS4.b
           clear q1
           go_wp2_with fail
           refine wp_region_q kR kR ?_
           repeat (first | ((try simp only [hd]); ((with_reducible refine wpB_load F_sliceM wU wU (by assumption) wU ?_); (try simp only [Act.put, pA, pB, pC]))) | (((with_reducible refine wpB_idxW 0 E_ints F_int cInt1 wU (rfl) wU (hR4) oD oD (fun _ => wU) wU (fun _ => wU) (fun _ => ?_)); (try simp only [Act.put, pA, pB, pC]); (try simp only [cInt])); first | rw [← HX.out] | rw [← HY.out]) |  ((with_reducible refine wpB_load (by first | exact F_int | exact F_u64s) wU wU (by assumption) wU ?_); (try simp only [Act.put, pA, pB, pC])) | ((refine wpQ_oneG ?_ wU (fun w' => ?_) ?_); rotate_left; (go_simp; rfl); (try simp only [Act.put, pA, pB, pC])))
           refine wpQuiet_nil ?_
           intro w5 hb5
           go_wp2_with fail
           go_ret
           exact ⟨by rw [HE.out, HST.out]; rfl, bnext hS4.b hb5⟩
          ·rw [if_neg (fun h => hxy h.2)] at hst
           have HST := hid hst
           have hdx : decide (x ≤ y) = false := decide_eq_false hxy
           clear hst hk0
           go_wp2_with (with_reducible refine wpList_ldB F_sliceM wU wU q1 wU ?_)
           refine wp_region_q kR kR ?_
           repeat (first | ((with_reducible refine wpB_loadS (n := 4) (us := #[.bool false, .int .i64 G, .int .i64 1, .slice ad S.length cap]) A_rmach kR wU wU (by assumption) wU wU ?_); (try simp only [Act.put, pA, pB, pC])) | ((with_reducible refine wpB_load F_sliceM wU wU (by assumption) wU ?_); (try simp only [Act.put, pA, pB, pC])) | (((with_reducible refine wpB_idx2 0 E_ints F_int cInt1 wU (rfl) wU (hRr) oD oD (fun _ => wU) (fun _ => ?_)); (try simp only [Act.put, pA, pB, pC]); (try simp only [cInt])); rw [← HX.out]) | ((refine wpB_call (.bool true) wU (fun w' => ?_) (fun w' hw' => HC.out w') ?_); (focus (go_simp; done)); (try simp only [Act.put, pA, pB, pC])) |  ((with_reducible refine wpB_load (by first | exact F_int | exact F_u64s) wU wU (by assumption) wU ?_); (try simp only [Act.put, pA, pB, pC])) | ((refine wpQ_oneG ?_ wU (fun w' => ?_) ?_); rotate_left; (go_simp; rfl); (try simp only [Act.put, pA, pB, pC])))
           refine wpQuiet_nil ?_
           intro w4 hb4
           have hS4 := hSr.mono hb4
           have q4 := (hS4.blk 0 rfl).1
           have hR4 := hR.below hS4.b
           clear q1
           go_wp2_with fail
           refine wp_region_q kR kR ?_
           repeat (first | ((try simp only [hd]); ((with_reducible refine wpB_load F_sliceM wU wU (by assumption) wU ?_); (try simp only [Act.put, pA, pB, pC]))) | (((with_reducible refine wpB_idxW 0 E_ints F_int cInt1 wU (rfl) wU (hR4) oD oD (fun _ => wU) wU (fun _ => wU) (fun _ => ?_)); (try simp only [Act.put, pA, pB, pC]); (try simp only [cInt])); first | rw [← HX.out] | rw [← HY.out]) |  ((with_reducible refine wpB_load (by first | exact F_int | exact F_u64s) wU wU (by assumption) wU ?_); (try simp only [Act.put, pA, pB, pC])) | ((refine wpQ_oneG ?_ wU (fun w' => ?_) ?_); rotate_left; (go_simp; rfl); (try simp only [Act.put, pA, pB, pC])))
           refine wpQuiet_nil ?_
           intro w5 hb5
           have hS5 := hS4.mono hb5
           go_wp2_with fail
           exact ⟨⟨k + 1, by omega, by go_num, HST.out.symm, hS5⟩, by simp [intOf]; omega⟩
       ·have hkn : k = S.length := by omega
        subst hkn
        have he : E = 0 := by rw [HE.out, ← hgo, HSE.out]
        have HEE := hid he
        clear he hgo
        go_wp2_with (with_reducible refine wpList_ldB F_sliceM wU wU q1 wU ?_)
        go_ret
        exact ⟨by rw [HEE.out]; rfl, hSr.b⟩
     ·go_enter Tryz.func32, Tryz.ntmps32
      go_wp2_with fail
      refine (HO.out _).mono ?_
      rintro e w1 ⟨rfl, rfl⟩
      go_wp2_with fail
      go_loopw [3] (fun i wr => ∃ k : Nat, k ≤ S.length ∧ i = .int .i64 k ∧ sg k = sg 0 ∧ SL w.heap.size w wr [pBlk w.heap.size (.cells #[.bool false, .int .i64 G, .int .i64 (-1), .slice ad S.length cap] 25)]) (fun i _ => S.length - (intOf i).toNat)
      case atStart => exact ⟨0, by omega, rfl, rfl, hS⟩
      case round =>
       clear hS
       obtain ⟨k, hk, rfl, hgo, hSr⟩ := hrel
       have q1 := (hSr.blk 0 rfl).1
       have hRr := hR.below hSr.b
       by_cases hlt : k < S.length
       ·have hst := HSW.out k hlt
        rw [hgo] at hst
        obtain ⟨x, hx⟩ : ∃ x, x = atD 0 S k := ⟨_, rfl⟩
        rw [← hx] at hst
        obtain ⟨b, hb⟩ : ∃ b, b = sh x := ⟨_, rfl⟩
        have CS := fun w => HCS'.out x w
        rw [← hb] at hst CS
        have HX := hid hx; have HC := hid CS
        clear hx hb CS hgo
        cases b
        ·rw [if_pos rfl] at hst
         have HST := hid hst
         clear hst
         go_wp2_with (with_reducible refine wpList_ldB F_sliceM wU wU q1 wU ?_)
         refine wp_region_q kR kR ?_
         repeat (first | ((with_reducible refine wpB_loadS (n := 4) (us := #[.bool false, .int .i64 G, .int .i64 (-1), .slice ad S.length cap]) A_rmach kR wU wU (by assumption) wU wU ?_); (try simp only [Act.put, pA, pB, pC])) | ((with_reducible refine wpB_load F_sliceM wU wU (by assumption) wU ?_); (try simp only [Act.put, pA, pB, pC])) | (((with_reducible refine wpB_idx2 0 E_ints F_int cInt1 wU (rfl) wU (hRr) oD oD (fun _ => wU) (fun _ => ?_)); (try simp only [Act.put, pA, pB, pC]); (try simp only [cInt])); rw [← HX.out]) | ((refine wpB_call (.bool false) wU (fun w' => ?_) (fun w' hw' => HC.out w') ?_); (focus (go_simp; done)); (try simp only [Act.put, pA, pB, pC])) |  ((with_reducible refine wpB_load (by first | exact F_int | exact F_u64s) wU wU (by assumption) wU ?_); (try simp only [Act.put, pA, pB, pC])) | ((refine wpQ_oneG ?_ wU (fun w' => ?_) ?_); rotate_left; (go_simp; rfl); (try simp only [Act.put, pA, pB, pC])))
         refine wpQuiet_nil ?_
         intro w4 hb4
         go_wp2_with fail
         go_ret
         exact ⟨by rw [HE.out, HST.out]; rfl, bnext hSr.b hb4⟩
        ·rw [if_neg (by decide)] at hst
         by_cases hk0 : k = 0
         ·have hst2 : sg (k + 1) = sg 0 := by rw [hst, if_neg (by omega)]
          have hd : decide (0 < k) = false := by simp; omega
          have HST := hid hst2
          clear hst hst2 hk0
          go_wp2_with (with_reducible refine wpList_ldB F_sliceM wU wU q1 wU ?_)
          refine wp_region_q kR kR ?_
          repeat (first | ((with_reducible refine wpB_loadS (n := 4) (us := #[.bool false, .int .i64 G, .int .i64 (-1), .slice ad S.length cap]) A_rmach kR wU wU (by assumption) wU wU ?_); (try simp only [Act.put, pA, pB, pC])) | ((with_reducible refine wpB_load F_sliceM wU wU (by assumption) wU ?_); (try simp only [Act.put, pA, pB, pC])) | (((with_reducible refine wpB_idx2 0 E_ints F_int cInt1 wU (rfl) wU (hRr) oD oD (fun _ => wU) (fun _ => ?_)); (try simp only [Act.put, pA, pB, pC]); (try simp only [cInt])); rw [← HX.out]) | ((refine wpB_call (.bool true) wU (fun w' => ?_) (fun w' hw' => HC.out w') ?_); (focus (go_simp; done)); (try simp only [Act.put, pA, pB, pC])) |  ((with_reducible refine wpB_load (by first | exact F_int | exact F_u64s) wU wU (by assumption) wU ?_); (try simp only [Act.put, pA, pB, pC])) | ((refine wpQ_oneG ?_ wU (fun w' => ?_) ?_); rotate_left; (go_simp; rfl); (try simp only [Act.put, pA, pB, pC])))
          refine wpQuiet_nil ?_
          intro w4 hb4
          have hS4 := hSr.mono hb4
          have q4 := (hS4.blk 0 rfl).1
          go_wp2_with fail
          refine wp_region_q kR kR ?_
          repeat (first | ((try simp only [hd]); ((with_reducible refine wpQ_skip wU ?_); (try simp only [Act.put, pA, pB, pC]))) |  ((with_reducible refine wpB_load (by first | exact F_int | exact F_u64s) wU wU (by assumption) wU ?_); (try simp only [Act.put, pA, pB, pC])) | ((refine wpQ_oneG ?_ wU (fun w' => ?_) ?_); rotate_left; (go_simp; rfl); (try simp only [Act.put, pA, pB, pC])))
          refine wpQuiet_nil ?_
          intro w5 hb5
          have hS5 := hS4.mono hb5
          go_wp2_with fail
          exact ⟨⟨k + 1, by omega, by go_num, HST.out, hS5⟩, by simp [intOf]; omega⟩
         ·have hd : decide (0 < k) = true := by simp; omega
          have hk1 : 0 ≤ (k : Int) - 1 ∧ (k : Int) - 1 < S.length := by omega
          have hwk : IntKind.i64.wrap ((k : Int) - 1) = (k : Int) - 1 := IntWalk.i64_in _ (by omega)
          obtain ⟨y, hy⟩ : ∃ y, y = atD 0 S ((k : Int) - 1) := ⟨_, rfl⟩
          rw [← hy] at hst
          have HY := hid hy
          clear hy
          by_cases hxy : x ≤ y
          ·rw [if_pos ⟨by omega, hxy⟩] at hst
           have HST := hid hst
           have hdx : decide (x ≤ y) = true := decide_eq_true hxy
           clear hst hk0
           go_wp2_with (with_reducible refine wpList_ldB F_sliceM wU wU q1 wU ?_)
           refine wp_region_q kR kR ?_
           repeat (first | ((with_reducible refine wpB_loadS (n := 4) (us := #[.bool false, .int .i64 G, .int .i64 (-1), .slice ad S.length cap]) A_rmach kR wU wU (by assumption) wU wU ?_); (try simp only [Act.put, pA, pB, pC])) | ((with_reducible refine wpB_load F_sliceM wU wU (by assumption) wU ?_); (try simp only [Act.put, pA, pB, pC])) | (((with_reducible refine wpB_idx2 0 E_ints F_int cInt1 wU (rfl) wU (hRr) oD oD (fun _ => wU) (fun _ => ?_)); (try simp only [Act.put, pA, pB, pC]); (try simp only [cInt])); rw [← HX.out]) | ((refine wpB_call (.bool true) wU (fun w' => ?_) (fun w' hw' => HC.out w') ?_); (focus (go_simp; done)); (try simp only [Act.put, pA, pB, pC])) |  ((with_reducible refine wpB_load (by first | exact F_int | exact F_u64s) wU wU (by assumption) wU ?_); (try simp only [Act.put, pA, pB, pC])) | ((refine wpQ_oneG ?_ wU (fun w' => ?_) ?_); rotate_left; (go_simp; rfl); (try simp only [Act.put, pA, pB, pC])))
           refine wpQuiet_nil ?_
           intro w4 hb4
           have hS4 := hSr.mono hb4
           have q4 := (hS4.blk 0 rfl).1
           have hR4 := hR.below hS4.b
           clear q1
           go_wp2_with fail
           refine wp_region_q kR kR ?_
           repeat (first | ((try simp only [hd]); ((with_reducible refine wpB_load F_sliceM wU wU (by assumption) wU ?_); (try simp only [Act.put, pA, pB, pC]))) | (((with_reducible refine wpB_idxW 0 E_ints F_int cInt1 wU (rfl) wU (hR4) oD oD (fun _ => wU) wU (fun _ => wU) (fun _ => ?_)); (try simp only [Act.put, pA, pB, pC]); (try simp only [cInt])); first | rw [← HX.out] | rw [← HY.out]) |  ((with_reducible refine wpB_load (by first | exact F_int | exact F_u64s) wU wU (by assumption) wU ?_); (try simp only [Act.put, pA, pB, pC])) | ((refine wpQ_oneG ?_ wU (fun w' => ?_) ?_); rotate_left; (go_simp; rfl); (try simp only [Act.put, pA, pB, pC])))
           refine wpQuiet_nil ?_
           intro w5 hb5
           go_wp2_with fail
           go_ret
           exact ⟨by rw [HE.out, HST.out]; rfl, bnext hS4.b hb5⟩
          ·rw [if_neg (fun h => hxy h.2)] at hst
           have HST := hid hst
           have hdx : decide (x ≤ y) = false := decide_eq_false hxy
           clear hst hk0
           go_wp2_with (with_reducible refine wpList_ldB F_sliceM wU wU q1 wU ?_)
           refine wp_region_q kR kR ?_
           repeat (first | ((with_reducible refine wpB_loadS (n := 4) (us := #[.bool false, .int .i64 G, .int .i64 (-1), .slice ad S.length cap]) A_rmach kR wU wU (by assumption) wU wU ?_); (try simp only [Act.put, pA, pB, pC])) | ((with_reducible refine wpB_load F_sliceM wU wU (by assumption) wU ?_); (try simp only [Act.put, pA, pB, pC])) | (((with_reducible refine wpB_idx2 0 E_ints F_int cInt1 wU (rfl) wU (hRr) oD oD (fun _ => wU) (fun _ => ?_)); (try simp only [Act.put, pA, pB, pC]); (try simp only [cInt])); rw [← HX.out]) | ((refine wpB_call (.bool true) wU (fun w' => ?_) (fun w' hw' => HC.out w') ?_); (focus (go_simp; done)); (try simp only [Act.put, pA, pB, pC])) |  ((with_reducible refine wpB_load (by first | exact F_int | exact F_u64s) wU wU (by assumption) wU ?_); (try simp only [Act.put, pA, pB, pC])) | ((refine wpQ_oneG ?_ wU (fun w' => ?_) ?_); rotate_left; (go_simp; rfl); (try simp only [Act.put, pA, pB, pC])))
           refine wpQuiet_nil ?_
           intro w4 hb4
           have hS4 := hSr.mono hb4
           have q4 := (hS4.blk 0 rfl).1
           have hR4 := hR.below hS4.b
           clear q1
           go_wp2_with fail
           refine wp_region_q kR kR ?_
           repeat (first | ((try simp only [hd]); ((with_reducible refine wpB_load F_sliceM wU wU (by assumption) wU ?_); (try simp only [Act.put, pA, pB, pC]))) | (((with_reducible refine wpB_idxW 0 E_ints F_int cInt1 wU (rfl) wU (hR4) oD oD (fun _ => wU) wU (fun _ => wU) (fun _ => ?_)); (try simp only [Act.put, pA, pB, pC]); (try simp only [cInt])); first | rw [← HX.out] | rw [← HY.out]) |  ((with_reducible refine wpB_load (by first | exact F_int | exact F_u64s) wU wU (by assumption) wU ?_); (try simp only [Act.put, pA, pB, pC])) | ((refine wpQ_oneG ?_ wU (fun w' => ?_) ?_); rotate_left; (go_simp; rfl); (try simp only [Act.put, pA, pB, pC])))
           refine wpQuiet_nil ?_
           intro w5 hb5
           have hS5 := hS4.mono hb5
           go_wp2_with fail
           exact ⟨⟨k + 1, by omega, by go_num, HST.out.symm, hS5⟩, by simp [intOf]; omega⟩
       ·have hkn : k = S.length := by omega
        subst hkn
        have he : E = 0 := by rw [HE.out, ← hgo, HSE.out]
        have HEE := hid he
        clear he hgo
        go_wp2_with (with_reducible refine wpList_ldB F_sliceM wU wU q1 wU ?_)
        go_ret
        exact ⟨by rw [HEE.out]; rfl, hSr.b⟩
end Go.Proofs.YtoebgfgihfjnnaaGreatDoor

namespace Go.Proofs.YtoebgfgihfjnnaaGreatDoor
open Go.RowKit
set_option maxHeartbeats 4000000
set_option maxRecDepth 100000
theorem rSame_same (m : MacV) (a b : Option Addr) (c d : Nat) (w : World) (hA : Ints w a c m.sw) (hB : Ints w b d m.sw) (hl : m.sw.length ≤ 1048576) :
  Calls Tryz.prog 35 #[mV m a c, mV m b d] w fun r w' => r = .returned (.bool true) ∧ Below w.heap.size w w' := by
 have CS := fun w h h2 => SameInts_any a b c d m.sw m.sw w h h2 hl
 rw [decide_eq_true rfl] at CS
 have HS := hid CS
 have hS := ((SL.nil w).box (.cells (mC m a c) 25)).box (.cells (mC m b d) 25)
 clear CS
 go_enter Tryz.func35, Tryz.ntmps35
 go_wp2_with fail
 refine (HS.out _ (hA.below hS.b) (hB.below hS.b)).mono ?_
 rintro e w1 ⟨rfl, b1⟩
 go_wp2_with fail
 go_ret
 exact ⟨rfl, bnext hS.b b1⟩
end Go.Proofs.YtoebgfgihfjnnaaGreatDoor

namespace Go.Proofs.YtoebgfgihfjnnaaGreatDoor
open Go.RowKit
set_option maxHeartbeats 8000000
set_option maxRecDepth 100000
theorem rSame_ne (m x : MacV) (a b : Option Addr) (c d : Nat) (w : World) (hA : Ints w a c m.sw) (hB : Ints w b d x.sw) (hl : m.sw.length ≤ 1048576) (hne : m ≠ x) :
  Calls Tryz.prog 35 #[mV m a c, mV x b d] w fun r w' => r = .returned (.bool false) ∧ Below w.heap.size w w' := by
 have hS := ((SL.nil w).box (.cells (mC m a c) 25)).box (.cells (mC x b d) 25)
 cases h1 : (m.ring == x.ring)
 ·have H1 := h1
  go_enter Tryz.func35, Tryz.ntmps35
  go_wp2_with fail
  go_ret
  exact ⟨rfl, hS.b⟩
 cases h2 : (m.gears == x.gears)
 ·go_enter Tryz.func35, Tryz.ntmps35
  go_wp2_with fail
  go_ret
  exact ⟨rfl, hS.b⟩
 cases h3 : (m.turn == x.turn)
 ·go_enter Tryz.func35, Tryz.ntmps35
  go_wp2_with fail
  go_ret
  exact ⟨rfl, hS.b⟩
 have h4 : m.sw ≠ x.sw := fun e => hne (by
  obtain ⟨r, g, t, s⟩ := m
  obtain ⟨r2, g2, t2, s2⟩ := x
  simp only [beq_iff_eq] at h1 h2 h3
  dsimp only at e h1 h2 h3
  rw [h1, h2, h3, e])
 have CS := fun w h h2 => SameInts_any a b c d m.sw x.sw w h h2 hl
 rw [decide_eq_false h4] at CS
 have HS := hid CS
 clear CS h4 hne
 go_enter Tryz.func35, Tryz.ntmps35
 go_wp2_with fail
 refine (HS.out _ (hA.below hS.b) (hB.below hS.b)).mono ?_
 rintro e w1 ⟨rfl, b1⟩
 go_wp2_with fail
 go_ret
 exact ⟨rfl, bnext hS.b b1⟩
end Go.Proofs.YtoebgfgihfjnnaaGreatDoor

namespace Go.Proofs.YtoebgfgihfjnnaaGreatDoor
set_option maxRecDepth 100000
theorem join_splR (c : UInt8) : ∀ (l cur : List UInt8), Lib.join (splR c cur l) [c] = cur ++ l
 | [], cur => by rw [splR, Lib.join_cons]; simp [Lib.joinTail]
 | b :: r, cur => by
   rw [splR]
   split
   · rename_i e
     subst e
     have ih := join_splR b r []
     cases hs : splR b [] r with
     | nil => have := spl_pos b r []; rw [hs] at this; simp at this
     | cons x t =>
       rw [hs, Lib.join_cons, List.nil_append] at ih
       rw [Lib.join_cons]
       unfold Lib.joinTail at ih ⊢
       rw [List.map_cons, List.flatten_cons, ← ih]
       simp
   · rw [join_splR c r (cur ++ [b])]; simp
theorem join_spl (c : UInt8) (l : List UInt8) : Lib.join (spl c l) [c] = l := by
 unfold spl; rw [join_splR]; rfl
theorem spl_join (c : UInt8) : ∀ (ls : List (List UInt8)), ls ≠ [] → (∀ x ∈ ls, c ∉ x) → spl c (Lib.join ls [c]) = ls
 | [], h, _ => absurd rfl h
 | [x], _, h => by
   rw [Lib.join_cons]
   have := h x (by simp)
   simp only [Lib.joinTail, List.map_nil, List.flatten_nil, List.append_nil]
   exact spl_free this
 | x :: y :: r, _, h => by
   have ih := spl_join c (y :: r) (by simp) (fun z hz => h z (List.mem_cons_of_mem _ hz))
   have hx := h x (by simp)
   have e : Lib.join (x :: y :: r) [c] = x ++ c :: Lib.join (y :: r) [c] := by
     rw [Lib.join_cons, Lib.join_cons]
     unfold Lib.joinTail
     rw [List.map_cons, List.flatten_cons]
     simp
   rw [e, spl_hit _ hx, ih]
def itoaD (n : Int) : List UInt8 := (itoaB n).data.toList
theorem intL_itoa {l : List UInt8} {n : Nat} (h : intL l = some n) : itoaD (n : Int) = l := by
 obtain ⟨_, _, _, h4, _⟩ := intL_canon h
 unfold itoaD
 rw [h4]; simp [bT]
theorem itoa_intL {n : Int} (h0 : 0 ≤ n) (h1 : n < 100) : intL (itoaD n) = some n.toNat ∧ canon (itoaD n) := by
 obtain ⟨u, rfl⟩ : ∃ u : Nat, n = u := ⟨n.toNat, by omega⟩
 have e : itoaD (u : Int) = Lib.decDigits u := by unfold itoaD; rw [itoaB_bT]; simp [bT]
 rw [e]
 have hc := dec_canon u
 refine ⟨?_, hc⟩
 have hl : (Lib.decDigits u).length ≤ 9 := by
  have hs := itoaB_size (u : Int) (by omega) (by omega)
  by_cases h10 : u < 10
  ·rw [decD_small h10]; simp
  ·rw [decD_big (by omega), decD_small (by omega)]; simp
 rw [intL, if_pos ⟨hc, hl⟩, valL_dec]; simp
theorem canon_free {l : List UInt8} (h : canon l) {c : UInt8} (hc : ¬ isDig c) : c ∉ l := fun hm => hc (h.2.2 c hm)
theorem intsL_itoa : ∀ {ls : List (List UInt8)} {v : List Int}, intsL ls = some v → v.map itoaD = ls
 | [], v, h => by cases h; rfl
 | x :: r, v, h => by
   rw [intsL] at h
   cases h1 : intL x with
   | none => rw [h1] at h; cases h
   | some n =>
     cases h2 : intsL r with
     | none => rw [h1, h2] at h; cases h
     | some l =>
       rw [h1, h2] at h
       cases h
       rw [List.map_cons, intsL_itoa h2, intL_itoa h1]
theorem itoa_intsL : ∀ (l : List Int), (∀ x ∈ l, 0 ≤ x ∧ x < 100) → intsL (l.map itoaD) = some l
 | [], _ => rfl
 | x :: r, h => by
   have hx := h x (by simp)
   rw [List.map_cons, intsL, (itoa_intL hx.1 hx.2).1, itoa_intsL r (fun y hy => h y (List.mem_cons_of_mem _ hy))]
   simp; omega
theorem intL_noneT : intL noneT = none := by decide
def swT (l : List Int) : List UInt8 := if l = [] then noneT else Lib.join (l.map itoaD) [44]
theorem swB_T (l : List Int) : (swB l).data.toList = swT l := by
 unfold swB swT
 split
 ·rfl
 ·unfold joinB
  simp only [List.map_map]
  rfl
theorem places_sw {w : List UInt8} {v : List Int} (h : placesL w = some v) : swT v = w := by
 unfold placesL at h
 split at h
 ·rename_i e; cases h; unfold swT; rw [if_pos rfl]; exact e.symm
 ·have hm := intsL_itoa h
  have hp := spl_pos 44 w []
  have : v ≠ [] := by
   intro e
   subst e
   have := congrArg List.length hm
   unfold spl at this
   simp at this
   omega
  unfold swT
  rw [if_neg this, hm, join_spl]
theorem sw_places {l : List Int} (h : ∀ x ∈ l, 0 ≤ x ∧ x < 100) : placesL (swT l) = some l ∧ (32 : UInt8) ∉ swT l := by
 unfold swT
 by_cases e : l = []
 ·subst e
  rw [if_pos rfl]
  exact ⟨rfl, by decide⟩
 ·rw [if_neg e]
  have hfree : ∀ x ∈ l.map itoaD, (44 : UInt8) ∉ x := by
   intro x hx
   obtain ⟨y, hy, rfl⟩ := List.mem_map.1 hx
   exact canon_free (itoa_intL (h y hy).1 (h y hy).2).2 (by decide)
  have hs := spl_join 44 (l.map itoaD) (by simpa using e) hfree
  have hne : Lib.join (l.map itoaD) [44] ≠ noneT := by
   intro e2
   rw [e2] at hs
   have h1 : spl 44 noneT = [noneT] := by decide
   rw [h1] at hs
   have := itoa_intsL l h
   rw [← hs, intsL, intL_noneT] at this
   cases this
  refine ⟨?_, ?_⟩
  ·unfold placesL
   rw [if_neg hne, hs, itoa_intsL l h]
  ·have key : ∀ ls : List (List UInt8), (∀ x ∈ ls, (32 : UInt8) ∉ x) → (32 : UInt8) ∉ Lib.join ls [44] := by
    intro ls
    cases ls with
    | nil => intro _; rw [Lib.join_nil]; simp
    | cons y r =>
     intro hls hm
     rw [Lib.join_cons, List.mem_append] at hm
     rcases hm with hm | hm
     ·exact hls y (by simp) hm
     ·unfold Lib.joinTail at hm
      obtain ⟨z, hz, hm⟩ := List.mem_flatten.1 hm
      obtain ⟨u, hu, rfl⟩ := List.mem_map.1 hz
      rcases List.mem_append.1 hm with hm | hm
      ·simp at hm
      ·exact hls u (List.mem_cons_of_mem _ hu) hm
   refine key _ fun x hx => ?_
   obtain ⟨y, hy, rfl⟩ := List.mem_map.1 hx
   exact canon_free (itoa_intL (h y hy).1 (h y hy).2).2 (by decide)
def printT (m : MacV) : List UInt8 := Lib.join [if m.ring then ringT else rowT, itoaD m.gears, if m.turn < 0 then [45] else [43], swT m.sw] [32]
theorem printMB_T (m : MacV) : (printMB m).data.toList = printT m := by
 unfold printMB printT joinB
 have h1 : (kindB m.ring).data.toList = if m.ring then ringT else rowT := by unfold kindB; split <;> rfl
 have h2 : (signB m.turn).data.toList = if m.turn < 0 then [45] else [43] := by unfold signB; split <;> rfl
 simp only [List.map_cons, List.map_nil, h1, h2, swB_T]
 rfl
/-- printed as it was read. -/
theorem parse_print {s : List UInt8} {m : MacV} (h : parseMB s = (m, 0)) : printT m = s ∧ macE m = 0 ∧ s.length ≤ 4096 := by
 unfold parseMB at h
 split at h
 ·cases h
 ·rename_i hlen
  match hs : spl 32 s with
  | [] => rw [hs] at h; cases h
  | [_] => rw [hs] at h; cases h
  | [_, _] => rw [hs] at h; cases h
  | [_, _, _] => rw [hs] at h; cases h
  | _ :: _ :: _ :: _ :: _ :: _ => rw [hs] at h; cases h
  | [k, g, t, w] =>
   have hj := join_spl 32 s
   rw [hs] at h hj
   rw [parseGo] at h
   split at h
   ·cases h
   ·rename_i hk
    split at h
    ·rename_i n l hn hl
     by_cases hm : macE ⟨decide (k = ringT), n, if t = [45] then -1 else 1, l⟩ ≠ 0
     ·rw [if_pos hm] at h; exact absurd (congrArg Prod.snd h) hm
     ·rw [if_neg hm] at h
      have h := congrArg Prod.fst h
      dsimp only at h
      subst h
      refine ⟨?_, by simpa using hm, by omega⟩
      unfold printT
      dsimp only
      rw [intL_itoa hn, places_sw hl]
      have e1 : (if decide (k = ringT) = true then ringT else rowT) = k := by
       by_cases e : k = ringT
       ·rw [decide_eq_true e, if_pos rfl, e]
       ·rw [decide_eq_false e]
        by_cases e2 : k = rowT
        ·rw [e2]; rfl
        ·exact absurd (.inl ⟨e2, e⟩) hk
      have e2 : (if (if t = [45] then (-1 : Int) else 1) < 0 then ([45] : List UInt8) else [43]) = t := by
       by_cases e : t = [45]
       ·rw [if_pos e, e]; rfl
       ·rw [if_neg e]
        by_cases e2 : t = [43]
        ·rw [e2]; rfl
        ·exact absurd (.inr ⟨e2, e⟩) hk
      rw [e1, e2, hj]
    ·cases h
/-- read as it is printed. -/
theorem print_parse {m : MacV} (h : macE m = 0) (hsw : ∀ x ∈ m.sw, 0 ≤ x ∧ x < 100) (hl : (printT m).length ≤ 4096) : parseMB (printT m) = (m, 0) := by
 obtain ⟨hok, _⟩ := macE_zero h
 have hlo := hok.lo
 have hhi := hok.hi
 obtain ⟨g1, g2⟩ := itoa_intL (n := m.gears) (by omega) (by omega)
 obtain ⟨p1, p2⟩ := sw_places hsw
 have hs : spl 32 (printT m) = [if m.ring then ringT else rowT, itoaD m.gears, if m.turn < 0 then [45] else [43], swT m.sw] := by
  unfold printT
  refine spl_join 32 _ (by simp) fun x hx => ?_
  simp only [List.mem_cons, List.not_mem_nil, or_false] at hx
  rcases hx with rfl | rfl | rfl | rfl
  ·cases m.ring <;> decide
  ·exact canon_free g2 (by decide)
  ·split <;> decide
  ·exact p2
 unfold parseMB
 rw [if_neg (by omega), hs, parseGo, g1, p1]
 have hk : ¬ (((if m.ring then ringT else rowT) ≠ rowT ∧ (if m.ring then ringT else rowT) ≠ ringT) ∨ ((if m.turn < 0 then ([45] : List UInt8) else [43]) ≠ [43] ∧ (if m.turn < 0 then ([45] : List UInt8) else [43]) ≠ [45])) := by
  rintro (⟨a, b⟩ | ⟨a, b⟩)
  ·cases hr : m.ring
   ·rw [hr] at a; exact a rfl
   ·rw [hr] at b; exact b rfl
  ·by_cases ht : m.turn < 0
   ·rw [if_pos ht] at b; exact b rfl
   ·rw [if_neg ht] at a; exact a rfl
 rw [if_neg hk]
 dsimp only
 have em : (⟨decide ((if m.ring then ringT else rowT) = ringT), ((m.gears.toNat : Nat) : Int), if (if m.turn < 0 then ([45] : List UInt8) else [43]) = [45] then -1 else 1, m.sw⟩ : MacV) = m := by
  obtain ⟨r, g, t, sw⟩ := m
  dsimp only at *
  have e1 : decide ((if r then ringT else rowT) = ringT) = r := by cases r <;> decide
  have e2 : (if (if t < 0 then ([45] : List UInt8) else [43]) = [45] then (-1 : Int) else 1) = t := by
   rcases hok.turn with e | e
   ·dsimp only at e; subst e; rfl
   ·dsimp only at e; subst e; rfl
  rw [e1, e2, Int.toNat_of_nonneg (by omega)]
 rw [em, if_neg (by simp [h])]
end Go.Proofs.YtoebgfgihfjnnaaGreatDoor

namespace Go.Proofs.YtoebgfgihfjnnaaGreatDoor
open Go.RowKit
set_option maxHeartbeats 4000000
set_option maxRecDepth 100000

theorem join_snocC (c : UInt8) (x : List UInt8) : ∀ (ls : List (List UInt8)), ls ≠ [] → Lib.join (ls ++ [x]) [c] = Lib.join ls [c] ++ c :: x
 | [], h => absurd rfl h
 | y :: r, _ => by
   rw [List.cons_append, Lib.join_cons, Lib.join_cons]
   unfold Lib.joinTail
   rw [List.map_append, List.flatten_append]
   simp
def headT (m : MacV) : List UInt8 := (if m.ring then ringT else rowT) ++ 32 :: (itoaD m.gears ++ 32 :: ((if m.turn < 0 then [45] else [43]) ++ [32]))
theorem printT_head (m : MacV) : printT m = headT m ++ swT m.sw := by
 unfold printT headT
 simp [Lib.join_cons, Lib.joinTail]
theorem print_bT (m : MacV) : printMB m = bT (printT m) := by rw [← printMB_T]; unfold bT; simp
/-- the switches that are printed so far. -/
def swK (l : List Int) (k : Nat) : List UInt8 := Lib.join ((l.take k).map itoaD) [44]
theorem swK_zero (l : List Int) : swK l 0 = [] := by unfold swK; rw [List.take_zero, List.map_nil, Lib.join_nil]
theorem swK_step {l : List Int} {k : Nat} (h : k < l.length) : swK l (k + 1) = swK l k ++ (if 0 < k then [44] else []) ++ itoaD (atD 0 l k) := by
 unfold swK
 rw [List.take_succ_eq_append_getElem h, List.map_append, List.map_cons, List.map_nil]
 have e : l[k] = atD 0 l k := by simp [atD, h]
 rw [e]
 by_cases h0 : 0 < k
 ·rw [if_pos h0, join_snocC _ _ _ (fun e => by
   rw [List.map_eq_nil_iff, List.take_eq_nil_iff] at e
   rcases e with e | e
   ·omega
   ·subst e; simp at h)]; simp
 ·have : k = 0 := by omega
  subst this
  rw [if_neg h0]; simp [Lib.join_cons, Lib.join_nil, Lib.joinTail]
theorem swK_len {l : List Int} (h : ∀ x ∈ l, 0 ≤ x ∧ x < 100) : ∀ {k : Nat}, k ≤ l.length → (swK l k).length ≤ 10 * k
 | 0, _ => by rw [swK_zero]; simp
 | k + 1, hk => by
   have ih := swK_len h (k := k) (by omega)
   have hx := h (atD 0 l k) (by simp [atD, show k < l.length by omega])
   rw [swK_step (by omega), List.length_append, List.length_append]
   obtain ⟨n, hn⟩ : ∃ n : Nat, atD 0 l k = n := ⟨(atD 0 l k).toNat, by omega⟩
   have := (itoaB_len (p := n) (by omega)).1
   have e : (itoaD (atD 0 l k)).length = (itoaB (n : Int)).size := by rw [hn]; rfl
   rw [e]
   split <;> simp <;> omega
end Go.Proofs.YtoebgfgihfjnnaaGreatDoor

namespace Go.Proofs.YtoebgfgihfjnnaaGreatDoor
open Go.RowKit
set_option maxHeartbeats 8000000
set_option maxRecDepth 100000
theorem swGo_shared (m : MacV) : ∀ (l : List Int) (o : Option Int), swGo m o l = 0 → ∀ x ∈ l, sharedM m x = true
 | [], _, _, x, hx => by cases hx
 | s :: r, o, h, x, hx => by
   unfold swGo at h
   cases hs : sharedM m s with
   | false => rw [hs] at h; simp at h
   | true =>
     rw [hs, if_neg (by decide)] at h
     have hr : ∃ o2, swGo m o2 r = 0 := by
       cases o with
       | none => exact ⟨_, h⟩
       | some b =>
         simp only at h
         split at h
         · omega
         · exact ⟨_, h⟩
     obtain ⟨o2, hr⟩ := hr
     rcases List.mem_cons.1 hx with rfl | hx
     · exact hs
     · exact swGo_shared m r o2 hr x hx
theorem sw_small {m : MacV} (h : macE m = 0) : ∀ x ∈ m.sw, 0 ≤ x ∧ x < 100 := fun x hx => by
 obtain ⟨hok, hs⟩ := macE_zero h
 obtain ⟨a, b, _⟩ := shared_iff.1 (swGo_shared m m.sw none hs x hx)
 have := hok.hi
 omega
theorem parse_small (S : List UInt8) : (parseMB S).1.sw.length ≤ 1048576 := by
 by_cases h : (parseMB S).2 = 0
 ·have h2 : parseMB S = ((parseMB S).1, 0) := by rw [← h]
  have := (macE_zero (parse_print h2).2.1).1
  have a := this.many
  have b := this.hi
  omega
 ·have key : ∀ P : MacV × Int, (P.2 = 0 ∨ P.1 = noM) → P.2 ≠ 0 → P.1.sw.length ≤ 1048576 := fun P h1 h2 => by
   rcases h1 with h1 | h1
   ·exact absurd h1 h2
   ·rw [h1]; decide
  refine key _ ?_ h
  unfold parseMB
  split
  ·exact .inr rfl
  ·generalize spl 32 S = L
   match L with
   | [] => exact .inr rfl
   | [_] => exact .inr rfl
   | [_, _] => exact .inr rfl
   | [_, _, _] => exact .inr rfl
   | _ :: _ :: _ :: _ :: _ :: _ => exact .inr rfl
   | [k, g, t, w] =>
    rw [parseGo]
    split
    ·exact .inr rfl
    ·split
     ·rename_i n v _ _
      by_cases hq : macE ⟨decide (k = ringT), n, if t = [45] then -1 else 1, v⟩ ≠ 0
      ·rw [if_pos hq]; exact .inr rfl
      ·rw [if_neg hq]; exact .inl rfl
     ·exact .inr rfl
end Go.Proofs.YtoebgfgihfjnnaaGreatDoor
