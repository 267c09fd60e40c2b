/- Contracts and plain facts that the claim uses (MemA SlA MaQ Lib3 ItA OpC TpF LwA OpM QrP QrA QrC QrD QrE). Conditions: as each one states. -/
import Derived.WalkKit
import Derived.WalkSpells
import Derived.Maps.AppendAt
import Derived.Deep.Quiet
import Derived.RangeFuncNested
import Derived.RangeFuncBound
import Derived.RangeFuncCalls
import Derived.RangeFuncLeaves
import Derived.RangeFuncFrom
import Derived.Shelf.Abstract
import Derived.Shelf.RegionOpen
import Derived.OwnWalkIn
import Derived.TacticsInMore
import Derived.LoopNIn
import Derived.LoopIn
import Derived.Test.YtndmeaoidihikaaGreatDoorProg
import Derived.Maps.Own
import Derived.Maps.OwnSet
import Derived.Maps.Views
import Derived.WalkLawsBesides
import Derived.Laws.EntriesVeiled
import Derived.Deep.QuietTactic
import Derived.BigQuiet
import Derived.Shelf.Strings.Trim
import Derived.Shelf.Strings.SlTrimAscii
import Derived.Shelf.Strings.Repeat
import Derived.Shelf.Strings.OnBuilder
import Derived.Shelf.Strconv.Itoa1
import Derived.Shelf.Strconv.Itoa3
import Derived.Shelf.LaysM
import Derived.Ground.Names2Prog
import Derived.Lib.OthersKept
import Derived.Deep.RegionHeld3
import Derived.Deep.AppendLies
import Derived.Deep.RegionHeldLaw
import Derived.Deep.RegionLaw
import Derived.StillTail
import Derived.Laws.Tables
import Derived.IntWalk
import Derived.Laws.CopyOwn
import Derived.BigRegion
import Derived.ChangeAlike
import Derived.Shelf.Bits.Mul64
import Derived.Lib.ItoaLen
import Derived.Lib.ItoaMem
import Derived.Sort.LoopGhostIn
import Derived.Maps.RangeWalk
import Derived.Shelf.Strconv.ErrVarAll
import Derived.Shelf.Strconv.AtoiAll
import Derived.Shelf.Strings.Cut
import Derived.Shelf.Strings.Split
import Derived.Shelf.Strings.SplitShaped
import Derived.Lib.AppendIntMem
import Derived.Lib.SmallJoins
import Derived.LaidSub
import Derived.Lib.LaidTab
import Derived.ReadAgain
import Derived.ChangeSlices
import Derived.OpenShut
import Derived.ProofKit
import Derived.Deep.DeepHandedRow
import Derived.Deep.SlicePairs
import Derived.Deep.LoopGhost
import Derived.Lib.Split
import Derived.Lib.AtoiAll
import Derived.Lib.AtoiErrMem
import Derived.Maps.Ext
import Derived.Stop.LaidErr
import Derived.Test.YtndmeaoidihikaaGreatDoorCards
import Derived.Test.YtndmeaoidihikaaGreatDoorTie
import Derived.Test.YtndmeaoidihikaaGreatDoorXz01
import Derived.Test.YtndmeaoidihikaaGreatDoorXz02
import Derived.Test.YtndmeaoidihikaaGreatDoorXz03
import Derived.Test.YtndmeaoidihikaaGreatDoorXz04
import Derived.Test.YtndmeaoidihikaaGreatDoorXz05
import Derived.Test.YtndmeaoidihikaaGreatDoorXz06
import Derived.Test.YtndmeaoidihikaaGreatDoorXz07
import Derived.Test.YtndmeaoidihikaaGreatDoorXz08
import Derived.Test.YtndmeaoidihikaaGreatDoorXz09
import Derived.Test.YtndmeaoidihikaaGreatDoorXz10
import Derived.Test.YtndmeaoidihikaaGreatDoorXz11
import Derived.Test.YtndmeaoidihikaaGreatDoorXz12
set_option linter.all false

namespace Go.Proofs.YtndmeaoidihikaaGreatDoor
open Go.RowKit
section
variable {α : Type} {c : α → Value} {sz : Nat} {w w' : World} {a : Option Addr} {cap : Nat} {l : List α}
end

section
variable {P : Program} {ops : Array Oper} {rest : List Oper} {a : Act} {Q : Exit → Act → World → Prop} {α : Type} {c : α → Value} {sz bytes : Nat} {t e : TypeId} {z : Value} {ad : Option Addr} {cap : Nat} {l : List α} {k : Int}
 {d1 d2 : Tmp} {ty1 ty2 : TypeId} {p1 p2 : String} {s x : Operand} {af1 af2 : Array Edge}

end
end Go.Proofs.YtndmeaoidihikaaGreatDoor

namespace Go.Proofs.YtndmeaoidihikaaGreatDoor
open Go.RowKit

section
variable {P : Program} {α : Type} {c : α → Value} {sz bytes B : Nat} {t e : TypeId} {z v : Value} {w w' : World} {l : List α}

theorem run_bounds {n cap i j : Nat} {lo hi : Option Value} (hlo : lo = some (.int .i64 i) ∨ lo = none ∧ i = 0) (hhi : hi = some (.int .i64 j) ∨ hi = none ∧ j = n) (hij : i ≤ j) (hj : j ≤ cap) :
   (Instr.sliceBounds true n cap lo hi none).run P w = .ok (i, j, cap) w := by
 have q0 : (0 : Int) ≤ (i : Int) := by omega
 have q1 : (0 : Int) ≤ (j : Int) := by omega
 have b1 : ∀ m : Nat, (m : Int) ≤ j ∨ True := fun _ => .inr trivial
 have r1 : ∀ c, (Instr.sliceBound (.int .i64 i) j c).run P w = .ok i w := fun c => by rw [run_sliceBound _ _ _ _ _ q0 (by omega)]; simp
 have r2 : ∀ c, (Instr.sliceBound (.int .i64 j) cap c).run P w = .ok j w := fun c => by rw [run_sliceBound _ _ _ _ _ q1 (by omega)]; simp
 rcases hlo with rfl | ⟨rfl, rfl⟩ <;> rcases hhi with rfl | ⟨rfl, rfl⟩ <;> simp [Instr.sliceBounds, r1, r2]

/-- 's[lo:hi]' of a readable slice. -/
theorem run_cut {a : Option Addr} {cap : Nat} (E : ETy P t e z sz bytes) (hR : Reps c sz w a cap l) (lo hi : Option Value) (i j : Nat) (hlo : lo = some (.int .i64 i) ∨ lo = none ∧ i = 0) (hhi : hi = some (.int .i64 j) ∨ hi = none ∧ j = l.length) (hij : i ≤ j) (hj : j ≤ l.length) :
   ∃ a', (Instr.sliceAt t (.slice a l.length cap) lo hi none).run P w = .ok (.slice a' (j - i) (cap - i)) w ∧ Reps c sz w a' (cap - i) ((l.take j).drop i) ∧ (∀ b, a' = some b → ∃ b0, a = some b0 ∧ b.block = b0.block) := by
 have hle := hR.le
 obtain ⟨inf, hinf, _, hs, _⟩ := info_parts E.inf
 have hlen : ((l.take j).drop i).length = j - i := by simp; omega
 refine ⟨if cap = i then a else a.map (·.add (i * sz)), ?_, ⟨hR.1, ?_⟩, ?_⟩
 ·simp [Instr.sliceAt, run_underlying E.und, Instr.slice, run_bounds hlo hhi hij (Nat.le_trans hj hle), sizeOf, typeInfo, hinf, hs]
 ·obtain ⟨h1, h2, h3, h4⟩ := hR.2
  have hg : ∀ x, ((c x).cells.toList).length = sz := fun x => by simpa using hR.1 x
  have hdrop : ∀ (l : List α) (i : Nat), ((l.drop i).flatMap fun x => (c x).cells.toList) = (l.flatMap fun x => (c x).cells.toList).drop (i * sz) := by
   intro l
   induction l with
   | nil => intro i; simp
   | cons x r ih =>
    intro i
    cases i with
    | zero => simp
    | succ i => rw [List.drop_succ_cons, ih, List.flatMap_cons, List.drop_append, (show (c x).cells.toList.drop ((i + 1) * sz) = [] from List.drop_eq_nil_of_le (by rw [hg, Nat.add_mul]; omega)), List.nil_append, hg]; congr 1; rw [Nat.add_mul]; omega
  have htake : ∀ (l : List α) (j : Nat) (q : Nat) (u : Value), ((l.take j).flatMap fun x => (c x).cells.toList)[q]? = some u → (l.flatMap fun x => (c x).cells.toList)[q]? = some u := by
   intro l j q u hu
   rw [← List.take_append_drop j l, List.flatMap_append, List.getElem?_append_left]
   ·exact hu
   ·exact (List.getElem?_eq_some_iff.1 hu).1
  refine ⟨by omega, by omega, fun hn => ?_, fun q u hu => ?_⟩
  ·split at hn
   ·omega
   ·cases a with
    | none => have := h3 rfl; omega
    | some b => cases hn
  ·rw [hdrop, List.getElem?_drop] at hu
   have hu' := htake l j _ u hu
   obtain ⟨b, o, rfl, hc⟩ := h4 _ u hu'
   have hlt := (List.getElem?_eq_some_iff.1 hu').1
   rw [flat_len _ sz hg] at hlt
   have hci : ¬ cap = i := by
    intro hh
    have : l.length ≤ i := by omega
    have := Nat.mul_le_mul_right sz this
    omega
   rw [if_neg hci]
   exact ⟨b, o + i * sz, by simp [Addr.add_z], by rw [Nat.add_assoc]; exact hc⟩
 ·intro b hb
  split at hb
  ·exact ⟨b, hb, rfl⟩
  ·cases a with
   | none => cases hb
   | some b0 => cases hb; exact ⟨b0, rfl, by simp [Addr.add]; split <;> rfl⟩
end
end Go.Proofs.YtndmeaoidihikaaGreatDoor

namespace Go.Proofs.YtndmeaoidihikaaGreatDoor
open Go.RowKit
set_option maxHeartbeats 1000000
set_option maxRecDepth 100000

end Go.Proofs.YtndmeaoidihikaaGreatDoor

namespace Go.Proofs.YtndmeaoidihikaaGreatDoor
open Go.RowKit
set_option maxRecDepth 100000

section
variable {B : Nat} {w0 w w' : World} {L K : List Pc}
end

section
variable {B : Nat} {w0 w w' : World} {L : List Pc} {α : Type} {c : α → Value} {sz : Nat} {e : TypeId} {v : Value} {l : List α}
end

section
variable {P : Program} {ops : Array Oper} {rest : List Oper} {a : Act} {Q : Exit → Act → World → Prop} {α : Type} {c : α → Value} {sz bytes B : Nat} {t e : TypeId} {z v : Value} {w0 w : World} {L : List Pc} {l : List α}
theorem wpList_appL {d : Option Tmp} {ty : TypeId} {p : String} {s x : Operand} {af : Array Edge} {ad : Option Addr} {n cap : Nat} {ys : List α} (i : Nat) (E : ETy P t e z sz bytes)
   (hs : a.eval s = v) (hx : a.eval x = .slice ad n cap) (hS : SL B w0 w L) (hi : L[i]? = some (pOwn c sz e v l)) (hR : Reps c sz w ad cap ys) (hn : n = ys.length) (h1 : ∀ x, ∀ u ∈ (c x).cells.toList, u.oneCell' = true)
   (hb : (l.length + ys.length) * bytes ≤ 140737488355328) (hm : l.length + ys.length ≤ 9223372036854775807)
   (hK : ∀ v' w', SL B w0 w' (L.set i (pOwn c sz e v' (l ++ ys))) → wpList P ops Q rest (a.put d v') w') :
   wpList P ops Q (⟨d, .call { callee := .builtin .append, args := #[s, x], argTypes := #[t, t] }, ty, p, af, none⟩ :: rest) a w := by
 subst hn
 obtain ⟨b, ⟨h2, h3⟩, h4, h5⟩ := hS.upd i hi
 refine wpList_app (l := l) (ys := ys) (ad := ad) (cap := cap) E hs hx h2 hR h1 hb (Nat.zero_le _) hm ?_
 intro v' w' ho hg hat
 refine hK v' w' (h5 w' _ v'.ownBlock (h3 ▸ hg) ⟨ho, rfl⟩ ?_)
 rcases hat with hat | hat
 ·exact .inl (hat.trans h3)
 ·exact .inr (fun k hk => by rw [hat] at hk; cases hk; exact Nat.le_refl _)
end
section
variable {ops : Array Oper} {rest : List Oper} {a : Act} {Q : Exit → Act → World → Prop} {d : Option Tmp} {ty : TypeId} {p : String} {m x y : Operand} {af : Array Edge} {b n B : Nat} {k : Int} {w0 w : World} {L : List Pc}
end
end Go.Proofs.YtndmeaoidihikaaGreatDoor

namespace Go.Proofs.YtndmeaoidihikaaGreatDoor
open Go.RowKit
set_option maxRecDepth 100000

section
variable {B : Nat} {w0 w w' : World} {L K : List Pc}
end

section
variable {α : Type} {c : α → Value} {sz : Nat} {e : TypeId} {v : Value} {l : List α} {B : Nat} {W0 w : World} {L : List Pc}
end
end Go.Proofs.YtndmeaoidihikaaGreatDoor

namespace Go.Proofs.YtndmeaoidihikaaGreatDoor
set_option maxRecDepth 100000

theorem itM_inj {m : MacV} {s t : Int} (h0 : 0 ≤ s) (h1 : s < 4 * m.gears) (k0 : 0 ≤ t) (k1 : t < 4 * m.gears) : ∀ n, itM m s n = itM m t n → s = t
 | 0, h => h
 | n + 1, h => by
   rw [itM_succ h0 h1, itM_succ k0 k1] at h
   have a := itM_rng h0 h1 n
   have b := itM_rng k0 k1 n
   exact itM_inj h0 h1 k0 k1 n (next_inj a.1 a.2 b.1 b.2 h)

end Go.Proofs.YtndmeaoidihikaaGreatDoor

namespace Go.Proofs
open Go.Shelf
def Tryz.laysM146_ren : Go.Shelf.Ren := ⟨fun | 146 => 80 | 221 => 115 | 268 => 142 | 138 => 143 | 143 => 144 | 195 => 169 | 197 => 170 | 218 => 171 | 219 => 172 | 260 => 193 | 217 => 194 | 225 => 195 | 224 => 196 | 267 => 197 | 266 => 215 | 314 => 216 | n => n, fun | 9 => 9 | 31 => 111 | 3 => 3 | 4 => 4 | 0 => 0 | 105 => 203 | 21 => 21 | 5 => 5 | 46 => 214 | 119 => 239 | 139 => 242 | 138 => 241 | 146 => 243 | 51 => 223 | n => n, fun | 1 => 0 | 3 => 4 | 4 => 5 | n => n⟩
theorem Tryz.laysM146 : Go.Proofs.LaysM.n146 Tryz.prog Tryz.laysM146_ren := {
 mixed := by kernel_rfl
 f138 := Tryz.func143.trans (congrArg some (by kernel_rfl))
 f143 := Tryz.func144.trans (congrArg some (by kernel_rfl))
 f146 := Tryz.func80.trans (congrArg some (by kernel_rfl))
 f195 := Tryz.func169.trans (congrArg some (by kernel_rfl))
 f197 := Tryz.func170.trans (congrArg some (by kernel_rfl))
 f217 := Tryz.func194.trans (congrArg some (by kernel_rfl))
 f218 := Tryz.func171.trans (congrArg some (by kernel_rfl))
 f219 := Tryz.func172.trans (congrArg some (by kernel_rfl))
 f221 := Tryz.func115.trans (congrArg some (by kernel_rfl))
 f224 := Tryz.func196.trans (congrArg some (by kernel_rfl))
 f225 := Tryz.func195.trans (congrArg some (by kernel_rfl))
 f260 := Tryz.func193.trans (congrArg some (by kernel_rfl))
 f266 := Tryz.func215.trans (congrArg some (by kernel_rfl))
 f267 := Tryz.func197.trans (congrArg some (by kernel_rfl))
 f268 := Tryz.func142.trans (congrArg some (by kernel_rfl))
 f314 := Tryz.func216.trans (congrArg some (by kernel_rfl))
 t0 := Tryz.underlying0
 a0 := Tryz.isAgg0
 z0 := Tryz.sizeOf0
 v0 := Tryz.zeroValue0
 t3 := Tryz.underlying3
 a3 := Tryz.isAgg3
 z3 := Tryz.sizeOf3
 v3 := Tryz.zeroValue3
 t4 := Tryz.underlying4
 a4 := Tryz.isAgg4
 z4 := Tryz.sizeOf4
 v4 := Tryz.zeroValue4
 t5 := Tryz.underlying5
 a5 := Tryz.isAgg5
 z5 := Tryz.sizeOf5
 v5 := Tryz.zeroValue5
 t9 := Tryz.underlying9
 a9 := Tryz.isAgg9
 z9 := Tryz.sizeOf9
 v9 := Tryz.zeroValue9
 t21 := Tryz.underlying21
 a21 := Tryz.isAgg21
 z21 := Tryz.sizeOf21
 v21 := Tryz.zeroValue21
 t31 := Tryz.underlying111
 a31 := Tryz.isAgg111
 z31 := Tryz.sizeOf111
 v31 := Tryz.zeroValue111
 t46 := Tryz.underlying214
 a46 := Tryz.isAgg214
 z46 := Tryz.sizeOf214
 v46 := Tryz.zeroValue214
 t51 := Tryz.underlying223
 a51 := Tryz.isAgg223
 z51 := Tryz.sizeOf223
 v51 := Tryz.zeroValue223
 t105 := Tryz.underlying203
 a105 := Tryz.isAgg203
 z105 := Tryz.sizeOf203
 v105 := Tryz.zeroValue203
 t119 := Tryz.underlying239
 a119 := Tryz.isAgg239
 z119 := Tryz.sizeOf239
 t138 := Tryz.underlying241
 a138 := Tryz.isAgg241
 z138 := Tryz.sizeOf241
 v138 := Tryz.zeroValue241
 t139 := Tryz.underlying242
 a139 := Tryz.isAgg242
 z139 := Tryz.sizeOf242
 v139 := Tryz.zeroValue242
 t146 := Tryz.underlying243
 a146 := Tryz.isAgg243
 z146 := Tryz.sizeOf243
 v146 := Tryz.zeroValue243
 g1 := by kernel_rfl
 g3 := by kernel_rfl
 g4 := by kernel_rfl
 i0 := by kernel_rfl
 i3 := by kernel_rfl
 i4 := by kernel_rfl
 i5 := by kernel_rfl
 i9 := by kernel_rfl
 i21 := by kernel_rfl
 i31 := by kernel_rfl
 i46 := by kernel_rfl
 i51 := by kernel_rfl
 i105 := by kernel_rfl
 i138 := by kernel_rfl
 i139 := by kernel_rfl
 i146 := by kernel_rfl
 m1 := by kernel_rfl
 s1_3 := fun w h => Go.Proofs.cell_of_shapedOpen_int (zero := #[.int .i64 0]) (t := 3) h (of_decide_eq_true (by kernel_rfl)) (by kernel_rfl) rfl (by kernel_rfl) (by kernel_rfl) Tryz.underlying3
 m3 := by kernel_rfl
 m4 := by kernel_rfl }

end Go.Proofs

namespace Go.Proofs.YtndmeaoidihikaaGreatDoor
open Go.RowKit
set_option maxRecDepth 100000

theorem gPowT : (Tryz.prog.globals[1]?).map (·.type) = some 222 := by kernel_rfl
/-- a row's condition lays the table. -/
theorem tabW_of {W : World} {l : List (String × DataW Unit)} (hL : laidMetH Tryz.prog l W) (he : (l.filter fun x => x.2.handleName?.isNone).filter (fun p => p.1 == "internal/strconv.uint64pow10") = [("internal/strconv.uint64pow10", Lib.tabData .u64 Lib.pow10Tab)]) : TabW W := by
 have h := (laidMetH_iff.1 hL).1.filter (fun p => p.1 == "internal/strconv.uint64pow10")
 rw [he] at h
 exact Lib.tabIs_of_head gPow gPowT Tryz.underlying222 Tryz.underlying186 kR kR h
end Go.Proofs.YtndmeaoidihikaaGreatDoor

namespace Go.Proofs.YtndmeaoidihikaaGreatDoor
open Go.RowKit Go.ChangeShapes Go.WideShapes Go.ChangeAt
set_option maxRecDepth 100000

theorem kidsP : Kids Tryz.prog (· < Tryz.prog.types.size) := kids_rows kR kR
theorem fullP : ∀ t e, t < Tryz.prog.types.size → Tryz.prog.underlying t = some (.slice e) → 0 < Tryz.prog.cellsOf e := slices_full_of Tryz.prog kR

section
variable {H : Type} {enc : TypeId × Value → H} {P : Program} {W W' : World}
theorem trodAll_carryW {base : Nat} {sp : Nat → Bool} {held : Bool} : ∀ {ts : List TypeId} {vs : List Value} {ds : List (DataW H)} {ps : List MemPlace}, DataW.TrodAll enc P W base sp held ts vs ds ps → (∀ p ∈ ps, W.sameAt W' p) → DataW.TrodAll enc P W' base sp held ts vs ds ps
 | [], [], [], _, h, _ => h
 | _ :: _, _ :: _, _ :: _, _, ⟨p, q, ⟨n, h1⟩, h2, e⟩, hs => ⟨p, q, ⟨n, DataW.trod_carry n _ _ _ h1 (fun x hx => hs x (by rw [e]; exact List.mem_append_left _ hx))⟩, trodAll_carryW h2 (fun x hx => hs x (by rw [e]; exact List.mem_append_right _ hx)), e⟩
theorem sameAt_below (hb : Below W.heap.size W W') {p : MemPlace} (h : p.block < W.heap.size) : W.sameAt W' p := by
 cases p with
 | cell b off => exact (hb.cell (p := ⟨b, off, none⟩) h)
 | map b => exact hb.block b h
theorem kept_below (hb : Below W.heap.size W W') (may : MemPlace → Prop) : W.keptBut W' may := by
 refine ⟨hb.os, hb.output, fun i hi => ?_⟩
 rw [hb.block i hi]
 cases h : W.heap[i]? with
 | none => rfl
 | some o =>
  cases o with
  | cells c t fr => exact ⟨rfl, rfl, rfl, fun _ _ => rfl⟩
  | map es clock => exact .inr ⟨rfl, rfl⟩
  | _ => rfl
/-- a law that returns true and turns nothing that was there. -/
theorem law_post {f : Func} {s : ChangeSpec} {args : Array Value} {ds gs : List (DataW H)} {before : List MemPlace} (hv : s.vars = []) (hr : f.resultTypes = #[4]) (hp : ∀ t ∈ f.params.toList, t < Tryz.prog.types.size)
   (hs : (s.fn H ds).results = [.lit (.bool true)] ∧ (s.fn H ds).args = ds ∧ (s.fn H ds).vars = [])
   (hW : DataW.Whole enc Tryz.prog f.params.toList s.vars false W args.toList ds gs before) (hb : Below W.heap.size W W') : s.post enc Tryz.prog f false true false false W args (.bool true) W' := by
 have hlt := hW.lt
 have hW' := hW
 obtain ⟨p, q, hA, hV, rfl, hfz, _⟩ := hW
 rw [hv] at hV
 have hgs : gs = [] ∧ q = [] := by
  cases gs with
  | nil => exact ⟨rfl, hV⟩
  | cons g gs => exact absurd hV id
 obtain ⟨rfl, rfl⟩ := hgs
 simp only [List.append_nil] at hlt hW' ⊢
 have hsame : ∀ p' ∈ p, W.sameAt W' p' := fun p' hp' => sameAt_below hb (hlt p' hp')
 refine ⟨ds, [], p, [], p, [], hW', ?_, ?_, ?_, kept_below hb _, fun h => by cases h⟩
 ·rw [List.append_nil, hs.1, hr]
  exact trodAll_cons_mk (shut_bool Tryz.underlying4 _) trodAll_mk0
 ·rw [List.append_nil, hs.2.1]
  exact DataW.TrodAll.respare kidsP fullP hp (trodAll_carryW hA hsame) (fun p' hp' => by simpa using hlt p' hp')
 ·rw [List.append_nil, hs.2.2, hv]
  rfl
end
end Go.Proofs.YtndmeaoidihikaaGreatDoor

namespace Go.Proofs.YtndmeaoidihikaaGreatDoor
open Go.RowKit Go.ChangeShapes Go.WideShapes Go.ChangeAt Go.Joins Go.Deep
set_option maxRecDepth 100000
theorem cellsInt : Tryz.prog.cellsOf 3 = 1 := by kernel_rfl
theorem inI_wf {x : Int} (h : (Lit.int .i64 x).wf = true) : InI x := by
 simp [Lit.wf, IntKind.min, IntKind.max, IntKind.bits, IntKind.signed] at h
 unfold InI
 omega
section
variable {H : Type} {enc : TypeId × Value → H} {W : World}
theorem ints_of_cells {a : Addr} {zs : List Int} {len cap : Nat} (hl : len ≤ cap) (hm : cap ≤ maxLen) (hz : len ≤ zs.length) (hc : ∀ i, i < zs.length → W.cell? (a.add i) = some (.int .i64 (zs.getD i 0))) : Ints W (some a) cap (zs.take len) := by
 have hlen : (zs.take len).length = len := by simp; omega
 refine ⟨cIntS, by rw [hlen]; exact hl, hm, fun h => (by cases h), fun j u hj => ?_⟩
 have hfm : ((zs.take len).flatMap fun x => (cInt x).cells.toList) = (zs.take len).map fun x => Value.int .i64 x := by
  generalize zs.take len = l
  induction l with
  | nil => rfl
  | cons x r ih => rw [List.flatMap_cons, ih]; rfl
 rw [hfm, List.getElem?_map] at hj
 have hjl : j < len := by
  obtain ⟨x, hx, _⟩ := Option.map_eq_some_iff.1 hj
  have := (List.getElem?_eq_some_iff.1 hx).1
  simp at this; omega
 have h0 := hc 0 (by omega)
 have hsp : a.spot = none := by
  unfold World.cell? Addr.add at h0
  simp only [if_pos] at h0
  split at h0
  ·split at h0
   ·cases h0
   ·next h => simpa using h
  ·cases h0
 refine ⟨a.block, a.off, by rw [← hsp], ?_⟩
 have hj0 := hc j (by omega)
 have e : a.add j = ⟨a.block, a.off + j, none⟩ := by
  unfold Addr.add
  split
  ·next h => subst h; rw [← hsp]; rfl
  ·rfl
 rw [e] at hj0
 rw [hj0, ← hj]
 have h2 : j < zs.length := by omega
 simp [List.getElem?_take, hjl, h2]
theorem open_intsA {r : Reach} {b0 : Nat} {v : Value} {d : DataW H} {ps : List MemPlace} (hval : Value.okWide Tryz.prog W r b0 22 v) (h : DataW.Trod enc Tryz.prog W 0 (fun _ => true) true 22 v d ps) : ∃ a cap l, v = .slice a l.length cap ∧ Ints W a cap l ∧ ∀ x ∈ l, InI x := by
 obtain ⟨a0, len, cap, rfl⟩ := okWide_slice Tryz.underlying22 hval
 obtain ⟨fuel, hf⟩ := h
 rcases open_ints Tryz.underlying22 Tryz.underlying3 cellsInt hf with ⟨hcs, _⟩ | ⟨a, len', cap', zs, hcs, _, hl, hm, hz, _, hcell, hwz⟩
 ·simp [Value.cells] at hcs
  obtain ⟨rfl, rfl, rfl⟩ := hcs
  exact ⟨_, _, [], rfl, ints_nil W, fun x hx => by cases hx⟩
 ·simp [Value.cells] at hcs
  obtain ⟨rfl, rfl, rfl⟩ := hcs
  simp only [if_true] at hz
  have hlen : (zs.take len).length = len := by simp; omega
  refine ⟨some a, cap, zs.take len, by rw [hlen], ints_of_cells hl hm (by omega) hcell, fun x hx => ?_⟩
  exact inI_wf (hwz x (List.mem_of_mem_take hx))
theorem open_intA {r : Reach} {b0 : Nat} {v : Value} {d : DataW H} {ps : List MemPlace} (hval : Value.okWide Tryz.prog W r b0 3 v) (h : DataW.Trod enc Tryz.prog W 0 (fun _ => true) true 3 v d ps) : ∃ x : Int, v = .int .i64 x ∧ InI x := by
 obtain ⟨y, rfl⟩ := okWide_int Tryz.underlying3 hval
 obtain ⟨n, hn⟩ := h
 obtain ⟨x, e, _, w0⟩ := DataW.trod_int Tryz.underlying3 hn
 simp [Value.cells] at e
 subst e
 exact ⟨y, rfl, inI_wf w0⟩
end
end Go.Proofs.YtndmeaoidihikaaGreatDoor

namespace Go.Proofs.YtndmeaoidihikaaGreatDoor
open Go.RowKit Go.ChangeShapes Go.WideShapes Go.ChangeAt Go.Joins Go.Deep
set_option maxRecDepth 100000

section
variable {H : Type} {enc : TypeId × Value → H} {W : World}
end
end Go.Proofs.YtndmeaoidihikaaGreatDoor

namespace Go.Proofs.YtndmeaoidihikaaGreatDoor
open Go.RowKit Go.ChangeShapes Go.WideShapes Go.ChangeAt Go.Joins Go.Deep
set_option maxRecDepth 100000

section
variable {H : Type} {enc : TypeId × Value → H} {W : World}
end
end Go.Proofs.YtndmeaoidihikaaGreatDoor

namespace Go.Proofs.YtndmeaoidihikaaGreatDoor
open Go.RowKit
set_option maxRecDepth 100000

instance (b : UInt8) : Decidable (isDig b) := inferInstanceAs (Decidable (_ ∧ _))
instance (l : List UInt8) : Decidable (canon l) := inferInstanceAs (Decidable (_ ∧ _ ∧ _))
end Go.Proofs.YtndmeaoidihikaaGreatDoor

namespace Go.Proofs.YtndmeaoidihikaaGreatDoor
open Go.RowKit
set_option maxHeartbeats 4000000
set_option maxRecDepth 100000

end Go.Proofs.YtndmeaoidihikaaGreatDoor

namespace Go.Proofs.YtndmeaoidihikaaGreatDoor
open Go.RowKit
set_option maxHeartbeats 4000000
set_option maxRecDepth 100000

end Go.Proofs.YtndmeaoidihikaaGreatDoor

namespace Go.Proofs.YtndmeaoidihikaaGreatDoor
open Go.RowKit
set_option maxHeartbeats 4000000
set_option maxRecDepth 100000

section
variable {P : Program} {ops : Array Oper} {rest : List Oper} {a : Act} {Qa : Act → Prop} {α : Type} {c : α → Value} {sz bytes : Nat} {t e t2 e2 : TypeId} {z : Value} {ad : Option Addr} {cap : Nat} {l : List α} {k : Int} {w : World}
 {d1 d2 d3 : Tmp} {ty1 ty2 ty3 : TypeId} {p1 p2 p3 : String} {s x : Operand} {af1 af2 af3 : Array Edge} {j : Nat}
end

end Go.Proofs.YtndmeaoidihikaaGreatDoor

namespace Go.Proofs.YtndmeaoidihikaaGreatDoor
open Go.RowKit
set_option maxRecDepth 100000

theorem gSynT : (Tryz.prog.globals[2]?).map (·.type) = some 156 := by kernel_rfl
theorem gRngT : (Tryz.prog.globals[3]?).map (·.type) = some 156 := by kernel_rfl
theorem starErr : "*" ++ "errors.errorString" = "*errors.errorString" := by decide
theorem rowErr (u : TypeId) (h : Tryz.prog.typeName? 3 u = some "*errors.errorString") : u = 246 :=
 typeName_ptr_named (nm := "errors.errorString") (by rw [starErr]; kernel_rfl) kR (by decide) u (by rw [starErr]; exact h)
theorem cErr : Tryz.prog.cellsOf 248 = 1 := by kernel_rfl
theorem cStr1' : Tryz.prog.cellsOf 9 = 1 := by kernel_rfl
theorem libW_of {W : World} {l : List (String × DataW Unit)} {t1 t2 : List UInt8} (hL : laidMetH Tryz.prog l W) (hsh : W.ShapedOpen Tryz.prog)
  (h1 : (l.filter fun x => x.2.handleName?.isNone).filter (fun p => p.1 == "internal/strconv.uint64pow10") = [("internal/strconv.uint64pow10", Lib.tabData .u64 Lib.pow10Tab)])
  (h2 : (l.filter fun x => x.2.handleName?.isNone).filter (fun p => p.1 == "strconv.ErrSyntax") = [("strconv.ErrSyntax", .iface "*errors.errorString" (.ptr (.agg [.lit (.string t1)])))])
  (h3 : (l.filter fun x => x.2.handleName?.isNone).filter (fun p => p.1 == "strconv.ErrRange") = [("strconv.ErrRange", .iface "*errors.errorString" (.ptr (.agg [.lit (.string t2)])))]) : LibW W := by
 refine ⟨tabW_of hL h1, Tryz.laysM146.s1_3 W hsh, ?_, ?_⟩
 ·have h := (laidMetH_iff.1 hL).1.filter (fun p => p.1 == "strconv.ErrSyntax")
  rw [h2] at h
  obtain ⟨a, s, hv, _⟩ := laid_sentinel h gSyn gSynT Tryz.underlying156 rowErr Tryz.underlying246 Tryz.underlying248 rfl rfl Tryz.underlying9 cErr cStr1'
  exact ⟨_, _, hv⟩
 ·have h := (laidMetH_iff.1 hL).1.filter (fun p => p.1 == "strconv.ErrRange")
  rw [h3] at h
  obtain ⟨a, s, hv, _⟩ := laid_sentinel h gRng gRngT Tryz.underlying156 rowErr Tryz.underlying246 Tryz.underlying248 rfl rfl Tryz.underlying9 cErr cStr1'
  exact ⟨_, _, hv⟩
section
open Go.ChangeMaps
variable {H : Type} {enc : TypeId × Value → H} {W : World}
end
end Go.Proofs.YtndmeaoidihikaaGreatDoor

namespace Go.Proofs.YtndmeaoidihikaaGreatDoor
open Go.ChangeShapes Go.WideShapes Go.ChangeAt Go.RowKit
set_option maxRecDepth 100000
theorem ownP : ownKnob Tryz.prog.godebug = none := by kernel_rfl
end Go.Proofs.YtndmeaoidihikaaGreatDoor

namespace Go.Proofs.YtndmeaoidihikaaGreatDoor
open Go.ChangeShapes Go.WideShapes Go.ChangeAt Go.RowKit
set_option maxRecDepth 100000
theorem g1 : (laidOutB Tryz.prog) = true := by kernel_rfl
theorem g2 : (mapsRowed Tryz.prog) = true := by kernel_rfl
theorem g6 : ((Tryz.prog.stops == [])) = true := by kernel_rfl
theorem g8 : ((Tryz.prog.stopKnobs == [])) = true := by kernel_rfl
theorem g24 : (Tryz.prog.stopsHeard) = true := by kernel_rfl
theorem g25 : (Tryz.prog.mayEnter) = true := by kernel_rfl
end Go.Proofs.YtndmeaoidihikaaGreatDoor

namespace Go.Proofs.YtndmeaoidihikaaGreatDoor
open Go.RowKit Go.ChangeShapes Go.WideShapes Go.ChangeAt Go.Joins Go.Deep
set_option maxRecDepth 100000
section
variable {H : Type} {enc : TypeId × Value → H} {W : World}
theorem open_machA {r : Reach} {b0 : Nat} {v : Value} {d : DataW H} {ps : List MemPlace} (hval : Value.okWide Tryz.prog W r b0 24 v) (h : DataW.Trod enc Tryz.prog W 0 (fun _ => true) true 24 v d ps) :
  ∃ (m : MacV) (ad : Option Addr) (cap : Nat), v = mV m ad cap ∧ Ints W ad cap m.sw ∧ InI m.gears ∧ InI m.turn ∧ ∀ x ∈ m.sw, InI x := by
 obtain ⟨v0, v1, v2, v3, y0, y1, y2, y3, n, rfl, _, _, k0, k1, k2, k3⟩ := open_agg4 Tryz.underlying24 kR rfl hval h
 obtain ⟨b, e0, _⟩ := DataW.trod_bool Tryz.underlying4 k0
 obtain ⟨x, e1, _, w1⟩ := DataW.trod_int Tryz.underlying3 k1
 obtain ⟨y, e2, _, w2⟩ := DataW.trod_int Tryz.underlying3 k2
 cases e0; cases e1; cases e2
 rcases open_ints Tryz.underlying22 Tryz.underlying3 cellsInt k3 with ⟨hcs, _⟩ | ⟨a, len', cap', zs, hcs, _, hl, hm, hz, _, hcell, hwz⟩
 ·cases hcs
  exact ⟨⟨b, x, y, []⟩, none, 0, rfl, ints_nil W, inI_wf w1, inI_wf w2, fun x hx => by cases hx⟩
 ·cases hcs
  simp only [if_true] at hz
  have hlen : (zs.take len').length = len' := by simp; omega
  refine ⟨⟨b, x, y, zs.take len'⟩, some a, cap', ?_, ints_of_cells hl hm (by omega) hcell, inI_wf w1, inI_wf w2, fun x hx => ?_⟩
  ·show _ = Value.agg #[_, _, _, .slice _ (zs.take len').length _]
   rw [hlen]
  ·exact inI_wf (hwz x (List.mem_of_mem_take hx))
end
end Go.Proofs.YtndmeaoidihikaaGreatDoor

namespace Go.Proofs.YtndmeaoidihikaaGreatDoor
set_option maxRecDepth 100000
/-- the switch before. -/
def prevO (l : List Int) : Nat → Option Int
 | 0 => none
 | k + 1 => some (atD 0 l k)
theorem swGo_prev (m : MacV) (k : Nat) (h : k < m.sw.length) : swGo m (prevO m.sw k) (m.sw.drop k) = if sharedM m (atD 0 m.sw k) = false then 10 else if 0 < k ∧ atD 0 m.sw k ≤ atD 0 m.sw ((k : Int) - 1) then 11 else swGo m (prevO m.sw (k + 1)) (m.sw.drop (k + 1)) := by
 rw [swGo_step m k h]
 cases k with
 | zero => simp [prevO]
 | succ j =>
  have : ((j + 1 : Nat) : Int) - 1 = j := by omega
  rw [this]
  simp only [prevO, Nat.zero_lt_succ, true_and]
end Go.Proofs.YtndmeaoidihikaaGreatDoor

namespace Go.Proofs.YtndmeaoidihikaaGreatDoor
open Go.RowKit
set_option maxHeartbeats 2000000
set_option maxRecDepth 100000

theorem A_rmach : Aggr Tryz.prog 25 := ⟨_, Tryz.underlying25, rfl⟩
theorem rOutside_any (n lo hi : Int) (w : World) :
  Calls Tryz.prog 37 #[.int .i64 n, .int .i64 lo, .int .i64 hi] w fun r w' => r = .returned (.bool (decide (n < lo) || decide (hi < n))) ∧ w = w' := by
 by_cases h : n < lo
 ·go_enter Tryz.func37, Tryz.ntmps37
  go_wp2_with fail
  go_ret
  exact ⟨by simp [h], rfl⟩
 ·go_enter Tryz.func37, Tryz.ntmps37
  go_wp2_with fail
  go_ret
  exact ⟨by rw [show decide (n < lo) = false by simpa using h]; rfl, rfl⟩
theorem rShort_any (m : MacV) (ad : Option Addr) (cap : Nat) (al : Option Addr) (cl n : Nat) (w : World) :
  Calls Tryz.prog 7 #[mV m ad cap, .slice al n cl] w fun r w' => r = .returned (.bool (decide (m.sw.length ≤ 19) && decide (n ≤ 67))) ∧ Below w.heap.size w w' := by
 by_cases h : m.sw.length ≤ 19
 ·have h2 : (m.sw.length : Int) ≤ 19 := by omega
  by_cases k : n ≤ 67
  ·have k2 : (n : Int) ≤ 67 := by omega
   go_enter Tryz.func7, Tryz.ntmps7
   go_wp2_with fail
   go_ret
   exact ⟨by simp [h, k, h2, k2], bal (Below.refl _ _) _⟩
  ·have k2 : ¬ (n : Int) ≤ 67 := by omega
   go_enter Tryz.func7, Tryz.ntmps7
   go_wp2_with fail
   go_ret
   exact ⟨by simp [h, k, h2, k2], bal (Below.refl _ _) _⟩
 ·have h2 : ¬ (m.sw.length : Int) ≤ 19 := by omega
  go_enter Tryz.func7, Tryz.ntmps7
  go_wp2_with fail
  go_ret
  exact ⟨by simp [h, h2], bal (Below.refl _ _) _⟩
theorem rSlots_any (m : MacV) (ad : Option Addr) (cap : Nat) (w : World) (h0 : 0 ≤ m.gears) (h1 : m.gears ≤ 16) :
  Calls Tryz.prog 60 #[mV m ad cap] w fun r w' => r = .returned (.int .i64 (4 * m.gears)) ∧ Below w.heap.size w w' := by
 go_enter Tryz.func60, Tryz.ntmps60
 go_wp2_with fail
 go_ret
 exact ⟨rfl, bal (Below.refl _ _) _⟩
theorem rShared_any (m : MacV) (ad : Option Addr) (cap : Nat) (p : Int) (w : World) (h0 : 1 ≤ m.gears) (h1 : m.gears ≤ 16) :
  Calls Tryz.prog 38 #[mV m ad cap, .int .i64 p] w fun r w' => r = .returned (.bool (sharedM m p)) ∧ Below w.heap.size w w' := by
 have hw : IntKind.i64.wrap (m.gears - 1) = m.gears - 1 := IntWalk.i64_in _ (by omega)
 have hS := (SL.nil w).box (.cells (mC m ad cap) 25)
 cases hr : m.ring
 ·have hs : sharedM m p = !(decide (p < 1) || decide (m.gears - 1 < p)) := by
   unfold sharedM
   rw [hr, Bool.eq_iff_iff]
   simp
   omega
  obtain ⟨b, hb⟩ : ∃ b, b = (decide (p < 1) || decide (m.gears - 1 < p)) := ⟨_, rfl⟩
  have CO := fun w => rOutside_any p 1 (m.gears - 1) w
  rw [← hb] at CO hs
  have HS := hid hs; have HO := hid CO
  clear hs CO hb
  unfold mV
  rw [hr]
  clear hr
  go_enter Tryz.func38, Tryz.ntmps38
  go_wp2_with fail
  refine (HO.out _).mono ?_
  rintro e w1 ⟨rfl, rfl⟩
  go_wp2_with fail
  go_ret
  exact ⟨by rw [HS.out]; rfl, bal (Below.refl _ _) _⟩
 ·have hs : sharedM m p = !(decide (p < 0) || decide (m.gears - 1 < p)) := by
   unfold sharedM
   rw [hr, Bool.eq_iff_iff]
   simp
   omega
  obtain ⟨b, hb⟩ : ∃ b, b = (decide (p < 0) || decide (m.gears - 1 < p)) := ⟨_, rfl⟩
  have CO := fun w => rOutside_any p 0 (m.gears - 1) w
  rw [← hb] at CO hs
  have HS := hid hs; have HO := hid CO
  clear hs CO hb
  unfold mV
  rw [hr]
  clear hr
  go_enter Tryz.func38, Tryz.ntmps38
  go_wp2_with fail
  refine (HO.out _).mono ?_
  rintro e w1 ⟨rfl, rfl⟩
  go_wp2_with fail
  go_ret
  exact ⟨by rw [HS.out]; rfl, bal (Below.refl _ _) _⟩
theorem rPlace_any (m : MacV) (ad : Option Addr) (cap : Nat) (s : Int) (w : World) (hg : m.gears ≤ 16) (h0 : 0 ≤ s) (h1 : s < 4 * m.gears) :
  Calls Tryz.prog 20 #[mV m ad cap, .int .i64 s] w fun r w' => r = .returned (.int .i64 (placeM m s)) ∧ Below w.heap.size w w' := by
 obtain ⟨g, hgq⟩ : ∃ g, g = s / 4 := ⟨_, rfl⟩
 obtain ⟨q, hq⟩ : ∃ q, q = s % 4 := ⟨_, rfl⟩
 have htd : s.tdiv 4 = g := by rw [hgq, Int.tdiv_eq_ediv_of_nonneg h0]
 have htm : s.tmod 4 = q := by rw [hq, Int.tmod_eq_emod_of_nonneg h0]
 have hp := place_prog h0 h1
 have hpl : placeM m s = if q = 0 then g else if q = 2 then (if m.ring = true ∧ g + 1 = m.gears then 0 else g + 1) else -1 := by unfold placeM; rw [hq, hgq]
 rw [← hgq] at hp
 have hq4 : q = 0 ∨ q = 1 ∨ q = 2 ∨ q = 3 := by omega
 have hg0 : 0 ≤ g ∧ g < m.gears := by omega
 have hw1 : IntKind.i64.wrap g = g := IntWalk.i64_in _ (by omega)
 have hw2 : IntKind.i64.wrap (g + 1) = g + 1 := IntWalk.i64_in _ (by omega)
 rcases hq4 with rfl | rfl | rfl | rfl
 ·rw [if_pos rfl] at hpl
  have HP := hid hpl
  clear hpl hp hq hgq
  go_enter Tryz.func20, Tryz.ntmps20
  go_wp2_with fail
  go_ret
  exact ⟨by rw [HP.out]; rfl, bal (Below.refl _ _) _⟩
 ·rw [if_neg (by decide), if_neg (by decide)] at hpl
  have HP := hid hpl
  clear hpl hp hq hgq
  go_enter Tryz.func20, Tryz.ntmps20
  go_wp2_with fail
  go_ret
  exact ⟨by rw [HP.out]; rfl, bal (Below.refl _ _) _⟩
 ·rw [if_neg (by decide), if_pos rfl, ← hp] at hpl
  obtain ⟨P, hP⟩ : ∃ P, P = placeM m s := ⟨_, rfl⟩
  rw [← hP] at hpl ⊢
  unfold mV
  cases hr : m.ring
  ·rw [hr] at hpl
   simp only [Bool.false_eq_true, if_false] at hpl
   have e2 : P = g + 1 := by rw [hpl]; exact Int.emod_eq_of_lt (by omega) (by omega)
   have HP := hid e2
   clear hpl hp hq hgq hP e2 hr
   go_enter Tryz.func20, Tryz.ntmps20
   go_wp2_with fail
   go_ret
   exact ⟨by rw [HP.out]; rfl, bal (Below.refl _ _) _⟩
  ·rw [hr] at hpl
   simp only [if_true, Int.add_zero] at hpl
   have hPb : 0 ≤ P ∧ P ≤ 64 := by
    rw [hpl]
    have a := Int.emod_nonneg (g + 1) (b := m.gears) (by omega)
    have b := Int.emod_lt_of_pos (g + 1) (b := m.gears) (by omega)
    omega
   have hmod : (g + 1).tmod m.gears = P := by rw [hpl, Int.tmod_eq_emod_of_nonneg (by omega)]
   have hnz : ¬ m.gears = 0 := by omega
   have hw : IntKind.i64.wrap P = P := IntWalk.i64_in _ (by omega)
   clear hpl hp hq hgq hP hr
   go_enter Tryz.func20, Tryz.ntmps20
   go_wp2_with fail
   go_ret
   exact ⟨rfl, bal (Below.refl _ _) _⟩
 ·rw [if_neg (by decide), if_neg (by decide)] at hpl
  have HP := hid hpl
  clear hpl hp hq hgq
  go_enter Tryz.func20, Tryz.ntmps20
  go_wp2_with fail
  go_ret
  exact ⟨by rw [HP.out]; rfl, bal (Below.refl _ _) _⟩
end Go.Proofs.YtndmeaoidihikaaGreatDoor

namespace Go.Proofs.YtndmeaoidihikaaGreatDoor
open Go.RowKit
set_option maxHeartbeats 4000000
set_option maxRecDepth 100000
section
variable {P : Program} {ops : Array Oper} {rest : List Oper} {a : Act} {Qa : Act → Prop} {α : Type} {c : α → Value} {sz bytes : Nat} {t e : TypeId} {z : Value} {ad : Option Addr} {cap : Nat} {l : List α} {k : Int} {w : World}
 {d1 d2 : Tmp} {ty1 ty2 : TypeId} {p1 p2 : String} {s x : Operand} {af1 af2 : Array Edge} {g1 g2 : Option (Nat × Bool)}
theorem wpB_idxW (d : α) (E : ETy P t e z sz bytes) (hF : Flat P e) (hc : ∀ x, (c x).cells = #[c x])
   {n : Nat} (hs : a.eval s = .slice ad n cap) (hn : l.length = n) (hx : a.eval x = .int .i64 k) (hR : Reps c sz w ad cap l) (h0 : 0 ≤ k) (hlt : k < l.length) (hd : ∀ p, (a.put (some d1) p).eval (.tmp d1) = p)
   (hw1 : Region.wanted ⟨some d1, .indexAddr t s x, ty1, p1, af1, g1⟩ (yielded ops a.tmps) = true) (hw2 : ∀ p, Region.wanted ⟨some d2, .load e (.tmp d1), ty2, p2, af2, g2⟩ (yielded ops (a.put (some d1) p).tmps) = true)
   (hK : ∀ p, wpQuiet P ops (Below w.heap.size w) Qa rest ((a.put (some d1) p).put (some d2) (c (atD d l k)))) :
   wpQuiet P ops (Below w.heap.size w) Qa (⟨some d1, .indexAddr t s x, ty1, p1, af1, g1⟩ :: ⟨some d2, .load e (.tmp d1), ty2, p2, af2, g2⟩ :: rest) a := by
 subst hn
 have hkl : k.toNat < l.length := by omega
 obtain ⟨b, o, rfl, hcs⟩ := hR.cells E.pos d k.toNat hkl
 have hcell := hcs 0 (c (atD d l k)) (by rw [show l.getD k.toNat d = atD d l k from rfl, hc]; rfl)
 refine wpQ_inG (.pointer (some ((⟨b, o, none⟩ : Addr).add (k.toNat * sz)))) hw1 (fun w' hw' => ?_) (wpQ_inG (c (atD d l k)) (hw2 _) (fun w' hw' => ?_) (hK _))
 ·have h1 := run_indexAt_sl (P := P) (a := ⟨b, o, none⟩) (cap := cap) w' E h0 hlt
  simp [execOp, hs, hx, h1, Result.andThen]
 ·have h2 := run_loadAt_cell (P := P) w' (a := (⟨b, o, none⟩ : Addr).add (k.toNat * sz)) (v := c (atD d l k)) hF (by
   rw [Addr.add_z]
   exact (hw'.cell (World.block_lt_of_cell? w _ hcell)).trans hcell)
  simp [execOp, hd, h2, Result.andThen]
end
theorem rCheckMachine_any (m : MacV) (ad : Option Addr) (cap : Nat) (w : World) (hR : Ints w ad cap m.sw) :
  Calls Tryz.prog 8 #[mV m ad cap] w fun r w' => r = .returned (.int .i64 (macE m)) ∧ Below w.heap.size w w' := by
 have hcap := hR.le
 have hmx := hR.max
 have hlen : m.sw.length ≤ 9223372036854775807 := by have := hR.max; unfold maxLen at this; omega
 have CS := fun (p : Int) w a b => rShared_any m ad cap p w a b
 have hE : macE m = if m.gears < 1 ∨ 16 < m.gears then 3 else if m.ring = true ∧ m.gears % 2 = 1 then 17 else if m.turn ≠ 1 ∧ m.turn ≠ -1 then 3 else if m.gears < m.sw.length then 5 else swGo m none m.sw := rfl
 have SW := fun (k : Nat) (h : k < m.sw.length) => swGo_prev m k h
 obtain ⟨E, hEE⟩ : ∃ E, E = macE m := ⟨_, rfl⟩
 obtain ⟨sg, hsg⟩ : ∃ sg : Nat → Int, ∀ k, sg k = swGo m (prevO m.sw k) (m.sw.drop k) := ⟨_, fun _ => rfl⟩
 obtain ⟨sh, hsh⟩ : ∃ sh : Int → Bool, ∀ p, sh p = sharedM m p := ⟨_, fun _ => rfl⟩
 have hs0 : swGo m none m.sw = sg 0 := (hsg 0).symm
 have hsE : sg m.sw.length = 0 := by rw [hsg, List.drop_length]; rfl
 rw [← hEE] at hE ⊢
 rw [hs0] at hE
 simp only [← hsg, ← hsh] at SW CS
 clear hs0 hsg hsh hEE
 obtain ⟨R, G, T, S⟩ := m
 dsimp only at *
 have HCS := hid CS; have HSW := hid SW; have HSE := hid hsE
 clear CS SW hsE
 have CO := fun w => rOutside_any G 1 16 w
 by_cases hA : G < 1 ∨ 16 < G
 ·rw [if_pos hA] at hE
  have hb : (decide (G < 1) || decide (16 < G)) = true := by simpa using hA
  rw [hb] at CO
  have HO := hid CO
  clear CO hb hA
  subst hE
  go_enter Tryz.func8, Tryz.ntmps8
  go_wp2_with fail
  refine (HO.out _).mono ?_
  rintro e w1 ⟨rfl, rfl⟩
  go_wp2_with fail
  go_ret
  exact ⟨rfl, bal (Below.refl _ _) _⟩
 ·rw [if_neg hA] at hE
  have hb : (decide (G < 1) || decide (16 < G)) = false := by simp; omega
  rw [hb] at CO
  have HO := hid CO
  have g1 : 1 ≤ G := by omega
  have g2 : G ≤ 16 := by omega
  have HCS' := hid (fun p w => HCS.out p w g1 g2)
  clear CO hb HCS hA
  obtain ⟨q, hq⟩ : ∃ q, q = G % 2 := ⟨_, rfl⟩
  have htm : G.tmod 2 = q := by rw [hq, Int.tmod_eq_emod_of_nonneg (by omega)]
  rw [← hq] at hE
  have hq01 : 0 ≤ q ∧ q < 2 := by omega
  clear hq
  have hS := (SL.nil w).box (.cells #[.bool R, .int .i64 G, .int .i64 T, .slice ad S.length cap] 25)
  by_cases h17 : R = true ∧ q = 1
  ·rw [if_pos h17] at hE
   obtain ⟨rfl, rfl⟩ := h17
   subst hE
   go_enter Tryz.func8, Tryz.ntmps8
   go_wp2_with fail
   refine (HO.out _).mono ?_
   rintro e w1 ⟨rfl, rfl⟩
   go_wp2_with fail
   go_ret
   exact ⟨rfl, bal (Below.refl _ _) _⟩
  ·rw [if_neg h17] at hE
   have hRq : (R = true ∧ (q == 1) = false) ∨ R = false := by
    cases R
    ·exact .inr rfl
    ·exact .inl ⟨rfl, by simpa using h17⟩
   clear h17
   by_cases hT : T ≠ 1 ∧ T ≠ -1
   ·rw [if_pos hT] at hE
    have t1 : (T != 1) = true := by simpa using hT.1
    have t2 : (T != -1) = true := by simpa using hT.2
    clear hT
    subst hE
    rcases hRq with ⟨rfl, hq1⟩ | rfl
    all_goals
     go_enter Tryz.func8, Tryz.ntmps8
     go_wp2_with fail
     refine (HO.out _).mono ?_
     rintro e w1 ⟨rfl, rfl⟩
     go_wp2_with fail
     go_ret
     exact ⟨rfl, bal (Below.refl _ _) _⟩
   ·rw [if_neg hT] at hE
    have hT2 : T = 1 ∨ T = -1 := by omega
    clear hT
    by_cases hL : G < S.length
    ·rw [if_pos hL] at hE
     subst hE
     rcases hRq with ⟨rfl, hq1⟩ | rfl <;> rcases hT2 with rfl | rfl
     all_goals
      go_enter Tryz.func8, Tryz.ntmps8
      go_wp2_with fail
      refine (HO.out _).mono ?_
      rintro e w1 ⟨rfl, rfl⟩
      go_wp2_with fail
      go_ret
      exact ⟨rfl, bal (Below.refl _ _) _⟩
    ·rw [if_neg hL] at hE
     have HE := hid hE
     clear hE
     have hS16 : S.length ≤ 16 := by omega
     rcases hRq with ⟨rfl, hq1⟩ | rfl <;> rcases hT2 with rfl | rfl
     ·go_enter Tryz.func8, Tryz.ntmps8
      go_wp2_with fail
      refine (HO.out _).mono ?_
      rintro e w1 ⟨rfl, rfl⟩
      go_wp2_with fail
      go_loopw [3] (fun i wr => ∃ k : Nat, k ≤ S.length ∧ i = .int .i64 k ∧ sg k = sg 0 ∧ SL w.heap.size w wr [pBlk w.heap.size (.cells #[.bool true, .int .i64 G, .int .i64 1, .slice ad S.length cap] 25)]) (fun i _ => S.length - (intOf i).toNat)
      case atStart => exact ⟨0, by omega, rfl, rfl, hS⟩
      case round =>
       clear hS
       obtain ⟨k, hk, rfl, hgo, hSr⟩ := hrel
       have q1 := (hSr.blk 0 rfl).1
       have hRr := hR.below hSr.b
       by_cases hlt : k < S.length
       ·have hst := HSW.out k hlt
        rw [hgo] at hst
        obtain ⟨x, hx⟩ : ∃ x, x = atD 0 S k := ⟨_, rfl⟩
        rw [← hx] at hst
        obtain ⟨b, hb⟩ : ∃ b, b = sh x := ⟨_, rfl⟩
        have CS := fun w => HCS'.out x w
        rw [← hb] at hst CS
        have HX := hid hx; have HC := hid CS
        clear hx hb CS hgo
        cases b
        ·rw [if_pos rfl] at hst
         have HST := hid hst
         clear hst
         go_wp2_with (with_reducible refine wpList_ldB F_sliceM wU wU q1 wU ?_)
         refine wp_region_q kR kR ?_
         repeat (first | ((with_reducible refine wpB_loadS (n := 4) (us := #[.bool true, .int .i64 G, .int .i64 1, .slice ad S.length cap]) A_rmach kR wU wU (by assumption) wU wU ?_); (try simp only [Act.put, pA, pB, pC])) | ((with_reducible refine wpB_load F_sliceM wU wU (by assumption) wU ?_); (try simp only [Act.put, pA, pB, pC])) | (((with_reducible refine wpB_idx2 0 E_ints F_int cInt1 wU (rfl) wU (hRr) oD oD (fun _ => wU) (fun _ => ?_)); (try simp only [Act.put, pA, pB, pC]); (try simp only [cInt])); rw [← HX.out]) | ((refine wpB_call (.bool false) wU (fun w' => ?_) (fun w' hw' => HC.out w') ?_); (focus (go_simp; done)); (try simp only [Act.put, pA, pB, pC])) |  ((with_reducible refine wpB_load (by first | exact F_int | exact F_u64s) wU wU (by assumption) wU ?_); (try simp only [Act.put, pA, pB, pC])) | ((refine wpQ_oneG ?_ wU (fun w' => ?_) ?_); rotate_left; (go_simp; rfl); (try simp only [Act.put, pA, pB, pC])))
         refine wpQuiet_nil ?_
         intro w4 hb4
         go_wp2_with fail
         go_ret
         exact ⟨by rw [HE.out, HST.out]; rfl, bnext hSr.b hb4⟩
        ·rw [if_neg (by decide)] at hst
         by_cases hk0 : k = 0
         ·have hst2 : sg (k + 1) = sg 0 := by rw [hst, if_neg (by omega)]
          have hd : decide (0 < k) = false := by simp; omega
          have HST := hid hst2
          clear hst hst2 hk0
          go_wp2_with (with_reducible refine wpList_ldB F_sliceM wU wU q1 wU ?_)
          refine wp_region_q kR kR ?_
          repeat (first | ((with_reducible refine wpB_loadS (n := 4) (us := #[.bool true, .int .i64 G, .int .i64 1, .slice ad S.length cap]) A_rmach kR wU wU (by assumption) wU wU ?_); (try simp only [Act.put, pA, pB, pC])) | ((with_reducible refine wpB_load F_sliceM wU wU (by assumption) wU ?_); (try simp only [Act.put, pA, pB, pC])) | (((with_reducible refine wpB_idx2 0 E_ints F_int cInt1 wU (rfl) wU (hRr) oD oD (fun _ => wU) (fun _ => ?_)); (try simp only [Act.put, pA, pB, pC]); (try simp only [cInt])); rw [← HX.out]) | ((refine wpB_call (.bool true) wU (fun w' => ?_) (fun w' hw' => HC.out w') ?_); (focus (go_simp; done)); (try simp only [Act.put, pA, pB, pC])) |  ((with_reducible refine wpB_load (by first | exact F_int | exact F_u64s) wU wU (by assumption) wU ?_); (try simp only [Act.put, pA, pB, pC])) | ((refine wpQ_oneG ?_ wU (fun w' => ?_) ?_); rotate_left; (go_simp; rfl); (try simp only [Act.put, pA, pB, pC])))
          refine wpQuiet_nil ?_
          intro w4 hb4
          have hS4 := hSr.mono hb4
          have q4 := (hS4.blk 0 rfl).1
          go_wp2_with fail
          refine wp_region_q kR kR ?_
          repeat (first | ((try simp only [hd]); ((with_reducible refine wpQ_skip wU ?_); (try simp only [Act.put, pA, pB, pC]))) |  ((with_reducible refine wpB_load (by first | exact F_int | exact F_u64s) wU wU (by assumption) wU ?_); (try simp only [Act.put, pA, pB, pC])) | ((refine wpQ_oneG ?_ wU (fun w' => ?_) ?_); rotate_left; (go_simp; rfl); (try simp only [Act.put, pA, pB, pC])))
          refine wpQuiet_nil ?_
          intro w5 hb5
          have hS5 := hS4.mono hb5
          go_wp2_with fail
          exact ⟨⟨k + 1, by omega, by go_num, HST.out, hS5⟩, by simp [intOf]; omega⟩
         ·have hd : decide (0 < k) = true := by simp; omega
          have hk1 : 0 ≤ (k : Int) - 1 ∧ (k : Int) - 1 < S.length := by omega
          have hwk : IntKind.i64.wrap ((k : Int) - 1) = (k : Int) - 1 := IntWalk.i64_in _ (by omega)
          obtain ⟨y, hy⟩ : ∃ y, y = atD 0 S ((k : Int) - 1) := ⟨_, rfl⟩
          rw [← hy] at hst
          have HY := hid hy
          clear hy
          by_cases hxy : x ≤ y
          ·rw [if_pos ⟨by omega, hxy⟩] at hst
           have HST := hid hst
           have hdx : decide (x ≤ y) = true := decide_eq_true hxy
           clear hst hk0
           go_wp2_with (with_reducible refine wpList_ldB F_sliceM wU wU q1 wU ?_)
           refine wp_region_q kR kR ?_
           repeat (first | ((with_reducible refine wpB_loadS (n := 4) (us := #[.bool true, .int .i64 G, .int .i64 1, .slice ad S.length cap]) A_rmach kR wU wU (by assumption) wU wU ?_); (try simp only [Act.put, pA, pB, pC])) | ((with_reducible refine wpB_load F_sliceM wU wU (by assumption) wU ?_); (try simp only [Act.put, pA, pB, pC])) | (((with_reducible refine wpB_idx2 0 E_ints F_int cInt1 wU (rfl) wU (hRr) oD oD (fun _ => wU) (fun _ => ?_)); (try simp only [Act.put, pA, pB, pC]); (try simp only [cInt])); rw [← HX.out]) | ((refine wpB_call (.bool true) wU (fun w' => ?_) (fun w' hw' => HC.out w') ?_); (focus (go_simp; done)); (try simp only [Act.put, pA, pB, pC])) |  ((with_reducible refine wpB_load (by first | exact F_int | exact F_u64s) wU wU (by assumption) wU ?_); (try simp only [Act.put, pA, pB, pC])) | ((refine wpQ_oneG ?_ wU (fun w' => ?_) ?_); rotate_left; (go_simp; rfl); (try simp only [Act.put, pA, pB, pC])))
           refine wpQuiet_nil ?_
           intro w4 hb4
           have hS4 := hSr.mono hb4
           have q4 := (hS4.blk 0 rfl).1
           have hR4 := hR.below hS4.b
           clear q1
           go_wp2_with fail
           refine wp_region_q kR kR ?_
           repeat (first | ((try simp only [hd]); ((with_reducible refine wpB_load F_sliceM wU wU (by assumption) wU ?_); (try simp only [Act.put, pA, pB, pC]))) | (((with_reducible refine wpB_idxW 0 E_ints F_int cInt1 wU (rfl) wU (hR4) oD oD (fun _ => wU) wU (fun _ => wU) (fun _ => ?_)); (try simp only [Act.put, pA, pB, pC]); (try simp only [cInt])); first | rw [← HX.out] | rw [← HY.out]) |  ((with_reducible refine wpB_load (by first | exact F_int | exact F_u64s) wU wU (by assumption) wU ?_); (try simp only [Act.put, pA, pB, pC])) | ((refine wpQ_oneG ?_ wU (fun w' => ?_) ?_); rotate_left; (go_simp; rfl); (try simp only [Act.put, pA, pB, pC])))
           refine wpQuiet_nil ?_
           intro w5 hb5
           go_wp2_with fail
           go_ret
           exact ⟨by rw [HE.out, HST.out]; rfl, bnext hS4.b hb5⟩
          ·rw [if_neg (fun h => hxy h.2)] at hst
           have HST := hid hst
           have hdx : decide (x ≤ y) = false := decide_eq_false hxy
           clear hst hk0
           go_wp2_with (with_reducible refine wpList_ldB F_sliceM wU wU q1 wU ?_)
           refine wp_region_q kR kR ?_
           repeat (first | ((with_reducible refine wpB_loadS (n := 4) (us := #[.bool true, .int .i64 G, .int .i64 1, .slice ad S.length cap]) A_rmach kR wU wU (by assumption) wU wU ?_); (try simp only [Act.put, pA, pB, pC])) | ((with_reducible refine wpB_load F_sliceM wU wU (by assumption) wU ?_); (try simp only [Act.put, pA, pB, pC])) | (((with_reducible refine wpB_idx2 0 E_ints F_int cInt1 wU (rfl) wU (hRr) oD oD (fun _ => wU) (fun _ => ?_)); (try simp only [Act.put, pA, pB, pC]); (try simp only [cInt])); rw [← HX.out]) | ((refine wpB_call (.bool true) wU (fun w' => ?_) (fun w' hw' => HC.out w') ?_); (focus (go_simp; done)); (try simp only [Act.put, pA, pB, pC])) |  ((with_reducible refine wpB_load (by first | exact F_int | exact F_u64s) wU wU (by assumption) wU ?_); (try simp only [Act.put, pA, pB, pC])) | ((refine wpQ_oneG ?_ wU (fun w' => ?_) ?_); rotate_left; (go_simp; rfl); (try simp only [Act.put, pA, pB, pC])))
           refine wpQuiet_nil ?_
           intro w4 hb4
           have hS4 := hSr.mono hb4
           have q4 := (hS4.blk 0 rfl).1
           have hR4 := hR.below hS4.b
           clear q1
           go_wp2_with fail
           refine wp_region_q kR kR ?_
           repeat (first | ((try simp only [hd]); ((with_reducible refine wpB_load F_sliceM wU wU (by assumption) wU ?_); (try simp only [Act.put, pA, pB, pC]))) | (((with_reducible refine wpB_idxW 0 E_ints F_int cInt1 wU (rfl) wU (hR4) oD oD (fun _ => wU) wU (fun _ => wU) (fun _ => ?_)); (try simp only [Act.put, pA, pB, pC]); (try simp only [cInt])); first | rw [← HX.out] | rw [← HY.out]) |  ((with_reducible refine wpB_load (by first | exact F_int | exact F_u64s) wU wU (by assumption) wU ?_); (try simp only [Act.put, pA, pB, pC])) | ((refine wpQ_oneG ?_ wU (fun w' => ?_) ?_); rotate_left; (go_simp; rfl); (try simp only [Act.put, pA, pB, pC])))
           refine wpQuiet_nil ?_
           intro w5 hb5
           have hS5 := hS4.mono hb5
           go_wp2_with fail
           exact ⟨⟨k + 1, by omega, by go_num, HST.out.symm, hS5⟩, by simp [intOf]; omega⟩
       ·have hkn : k = S.length := by omega
        subst hkn
        have he : E = 0 := by rw [HE.out, ← hgo, HSE.out]
        have HEE := hid he
        clear he hgo
        go_wp2_with (with_reducible refine wpList_ldB F_sliceM wU wU q1 wU ?_)
        go_ret
        exact ⟨by rw [HEE.out]; rfl, hSr.b⟩
     ·go_enter Tryz.func8, Tryz.ntmps8
      go_wp2_with fail
      refine (HO.out _).mono ?_
      rintro e w1 ⟨rfl, rfl⟩
      go_wp2_with fail
      go_loopw [3] (fun i wr => ∃ k : Nat, k ≤ S.length ∧ i = .int .i64 k ∧ sg k = sg 0 ∧ SL w.heap.size w wr [pBlk w.heap.size (.cells #[.bool true, .int .i64 G, .int .i64 (-1), .slice ad S.length cap] 25)]) (fun i _ => S.length - (intOf i).toNat)
      case atStart => exact ⟨0, by omega, rfl, rfl, hS⟩
      case round =>
       clear hS
       obtain ⟨k, hk, rfl, hgo, hSr⟩ := hrel
       have q1 := (hSr.blk 0 rfl).1
       have hRr := hR.below hSr.b
       by_cases hlt : k < S.length
       ·have hst := HSW.out k hlt
        rw [hgo] at hst
        obtain ⟨x, hx⟩ : ∃ x, x = atD 0 S k := ⟨_, rfl⟩
        rw [← hx] at hst
        obtain ⟨b, hb⟩ : ∃ b, b = sh x := ⟨_, rfl⟩
        have CS := fun w => HCS'.out x w
        rw [← hb] at hst CS
        have HX := hid hx; have HC := hid CS
        clear hx hb CS hgo
        cases b
        ·rw [if_pos rfl] at hst
         have HST := hid hst
         clear hst
         go_wp2_with (with_reducible refine wpList_ldB F_sliceM wU wU q1 wU ?_)
         refine wp_region_q kR kR ?_
         repeat (first | ((with_reducible refine wpB_loadS (n := 4) (us := #[.bool true, .int .i64 G, .int .i64 (-1), .slice ad S.length cap]) A_rmach kR wU wU (by assumption) wU wU ?_); (try simp only [Act.put, pA, pB, pC])) | ((with_reducible refine wpB_load F_sliceM wU wU (by assumption) wU ?_); (try simp only [Act.put, pA, pB, pC])) | (((with_reducible refine wpB_idx2 0 E_ints F_int cInt1 wU (rfl) wU (hRr) oD oD (fun _ => wU) (fun _ => ?_)); (try simp only [Act.put, pA, pB, pC]); (try simp only [cInt])); rw [← HX.out]) | ((refine wpB_call (.bool false) wU (fun w' => ?_) (fun w' hw' => HC.out w') ?_); (focus (go_simp; done)); (try simp only [Act.put, pA, pB, pC])) |  ((with_reducible refine wpB_load (by first | exact F_int | exact F_u64s) wU wU (by assumption) wU ?_); (try simp only [Act.put, pA, pB, pC])) | ((refine wpQ_oneG ?_ wU (fun w' => ?_) ?_); rotate_left; (go_simp; rfl); (try simp only [Act.put, pA, pB, pC])))
         refine wpQuiet_nil ?_
         intro w4 hb4
         go_wp2_with fail
         go_ret
         exact ⟨by rw [HE.out, HST.out]; rfl, bnext hSr.b hb4⟩
        ·rw [if_neg (by decide)] at hst
         by_cases hk0 : k = 0
         ·have hst2 : sg (k + 1) = sg 0 := by rw [hst, if_neg (by omega)]
          have hd : decide (0 < k) = false := by simp; omega
          have HST := hid hst2
          clear hst hst2 hk0
          go_wp2_with (with_reducible refine wpList_ldB F_sliceM wU wU q1 wU ?_)
          refine wp_region_q kR kR ?_
          repeat (first | ((with_reducible refine wpB_loadS (n := 4) (us := #[.bool true, .int .i64 G, .int .i64 (-1), .slice ad S.length cap]) A_rmach kR wU wU (by assumption) wU wU ?_); (try simp only [Act.put, pA, pB, pC])) | ((with_reducible refine wpB_load F_sliceM wU wU (by assumption) wU ?_); (try simp only [Act.put, pA, pB, pC])) | (((with_reducible refine wpB_idx2 0 E_ints F_int cInt1 wU (rfl) wU (hRr) oD oD (fun _ => wU) (fun _ => ?_)); (try simp only [Act.put, pA, pB, pC]); (try simp only [cInt])); rw [← HX.out]) | ((refine wpB_call (.bool true) wU (fun w' => ?_) (fun w' hw' => HC.out w') ?_); (focus (go_simp; done)); (try simp only [Act.put, pA, pB, pC])) |  ((with_reducible refine wpB_load (by first | exact F_int | exact F_u64s) wU wU (by assumption) wU ?_); (try simp only [Act.put, pA, pB, pC])) | ((refine wpQ_oneG ?_ wU (fun w' => ?_) ?_); rotate_left; (go_simp; rfl); (try simp only [Act.put, pA, pB, pC])))
          refine wpQuiet_nil ?_
          intro w4 hb4
          have hS4 := hSr.mono hb4
          have q4 := (hS4.blk 0 rfl).1
          go_wp2_with fail
          refine wp_region_q kR kR ?_
          repeat (first | ((try simp only [hd]); ((with_reducible refine wpQ_skip wU ?_); (try simp only [Act.put, pA, pB, pC]))) |  ((with_reducible refine wpB_load (by first | exact F_int | exact F_u64s) wU wU (by assumption) wU ?_); (try simp only [Act.put, pA, pB, pC])) | ((refine wpQ_oneG ?_ wU (fun w' => ?_) ?_); rotate_left; (go_simp; rfl); (try simp only [Act.put, pA, pB, pC])))
          refine wpQuiet_nil ?_
          intro w5 hb5
          have hS5 := hS4.mono hb5
          go_wp2_with fail
          exact ⟨⟨k + 1, by omega, by go_num, HST.out, hS5⟩, by simp [intOf]; omega⟩
         ·have hd : decide (0 < k) = true := by simp; omega
          have hk1 : 0 ≤ (k : Int) - 1 ∧ (k : Int) - 1 < S.length := by omega
          have hwk : IntKind.i64.wrap ((k : Int) - 1) = (k : Int) - 1 := IntWalk.i64_in _ (by omega)
          obtain ⟨y, hy⟩ : ∃ y, y = atD 0 S ((k : Int) - 1) := ⟨_, rfl⟩
          rw [← hy] at hst
          have HY := hid hy
          clear hy
          by_cases hxy : x ≤ y
          ·rw [if_pos ⟨by omega, hxy⟩] at hst
           have HST := hid hst
           have hdx : decide (x ≤ y) = true := decide_eq_true hxy
           clear hst hk0
           go_wp2_with (with_reducible refine wpList_ldB F_sliceM wU wU q1 wU ?_)
           refine wp_region_q kR kR ?_
           repeat (first | ((with_reducible refine wpB_loadS (n := 4) (us := #[.bool true, .int .i64 G, .int .i64 (-1), .slice ad S.length cap]) A_rmach kR wU wU (by assumption) wU wU ?_); (try simp only [Act.put, pA, pB, pC])) | ((with_reducible refine wpB_load F_sliceM wU wU (by assumption) wU ?_); (try simp only [Act.put, pA, pB, pC])) | (((with_reducible refine wpB_idx2 0 E_ints F_int cInt1 wU (rfl) wU (hRr) oD oD (fun _ => wU) (fun _ => ?_)); (try simp only [Act.put, pA, pB, pC]); (try simp only [cInt])); rw [← HX.out]) | ((refine wpB_call (.bool true) wU (fun w' => ?_) (fun w' hw' => HC.out w') ?_); (focus (go_simp; done)); (try simp only [Act.put, pA, pB, pC])) |  ((with_reducible refine wpB_load (by first | exact F_int | exact F_u64s) wU wU (by assumption) wU ?_); (try simp only [Act.put, pA, pB, pC])) | ((refine wpQ_oneG ?_ wU (fun w' => ?_) ?_); rotate_left; (go_simp; rfl); (try simp only [Act.put, pA, pB, pC])))
           refine wpQuiet_nil ?_
           intro w4 hb4
           have hS4 := hSr.mono hb4
           have q4 := (hS4.blk 0 rfl).1
           have hR4 := hR.below hS4.b
           clear q1
           go_wp2_with fail
           refine wp_region_q kR kR ?_
           repeat (first | ((try simp only [hd]); ((with_reducible refine wpB_load F_sliceM wU wU (by assumption) wU ?_); (try simp only [Act.put, pA, pB, pC]))) | (((with_reducible refine wpB_idxW 0 E_ints F_int cInt1 wU (rfl) wU (hR4) oD oD (fun _ => wU) wU (fun _ => wU) (fun _ => ?_)); (try simp only [Act.put, pA, pB, pC]); (try simp only [cInt])); first | rw [← HX.out] | rw [← HY.out]) |  ((with_reducible refine wpB_load (by first | exact F_int | exact F_u64s) wU wU (by assumption) wU ?_); (try simp only [Act.put, pA, pB, pC])) | ((refine wpQ_oneG ?_ wU (fun w' => ?_) ?_); rotate_left; (go_simp; rfl); (try simp only [Act.put, pA, pB, pC])))
           refine wpQuiet_nil ?_
           intro w5 hb5
           go_wp2_with fail
           go_ret
           exact ⟨by rw [HE.out, HST.out]; rfl, bnext hS4.b hb5⟩
          ·rw [if_neg (fun h => hxy h.2)] at hst
           have HST := hid hst
           have hdx : decide (x ≤ y) = false := decide_eq_false hxy
           clear hst hk0
           go_wp2_with (with_reducible refine wpList_ldB F_sliceM wU wU q1 wU ?_)
           refine wp_region_q kR kR ?_
           repeat (first | ((with_reducible refine wpB_loadS (n := 4) (us := #[.bool true, .int .i64 G, .int .i64 (-1), .slice ad S.length cap]) A_rmach kR wU wU (by assumption) wU wU ?_); (try simp only [Act.put, pA, pB, pC])) | ((with_reducible refine wpB_load F_sliceM wU wU (by assumption) wU ?_); (try simp only [Act.put, pA, pB, pC])) | (((with_reducible refine wpB_idx2 0 E_ints F_int cInt1 wU (rfl) wU (hRr) oD oD (fun _ => wU) (fun _ => ?_)); (try simp only [Act.put, pA, pB, pC]); (try simp only [cInt])); rw [← HX.out]) | ((refine wpB_call (.bool true) wU (fun w' => ?_) (fun w' hw' => HC.out w') ?_); (focus (go_simp; done)); (try simp only [Act.put, pA, pB, pC])) |  ((with_reducible refine wpB_load (by first | exact F_int | exact F_u64s) wU wU (by assumption) wU ?_); (try simp only [Act.put, pA, pB, pC])) | ((refine wpQ_oneG ?_ wU (fun w' => ?_) ?_); rotate_left; (go_simp; rfl); (try simp only [Act.put, pA, pB, pC])))
           refine wpQuiet_nil ?_
           intro w4 hb4
           have hS4 := hSr.mono hb4
           have q4 := (hS4.blk 0 rfl).1
           have hR4 := hR.below hS4.b
           clear q1
           go_wp2_with fail
           refine wp_region_q kR kR ?_
           repeat (first | ((try simp only [hd]); ((with_reducible refine wpB_load F_sliceM wU wU (by assumption) wU ?_); (try simp only [Act.put, pA, pB, pC]))) | (((with_reducible refine wpB_idxW 0 E_ints F_int cInt1 wU (rfl) wU (hR4) oD oD (fun _ => wU) wU (fun _ => wU) (fun _ => ?_)); (try simp only [Act.put, pA, pB, pC]); (try simp only [cInt])); first | rw [← HX.out] | rw [← HY.out]) |  ((with_reducible refine wpB_load (by first | exact F_int | exact F_u64s) wU wU (by assumption) wU ?_); (try simp only [Act.put, pA, pB, pC])) | ((refine wpQ_oneG ?_ wU (fun w' => ?_) ?_); rotate_left; (go_simp; rfl); (try simp only [Act.put, pA, pB, pC])))
           refine wpQuiet_nil ?_
           intro w5 hb5
           have hS5 := hS4.mono hb5
           go_wp2_with fail
           exact ⟨⟨k + 1, by omega, by go_num, HST.out.symm, hS5⟩, by simp [intOf]; omega⟩
       ·have hkn : k = S.length := by omega
        subst hkn
        have he : E = 0 := by rw [HE.out, ← hgo, HSE.out]
        have HEE := hid he
        clear he hgo
        go_wp2_with (with_reducible refine wpList_ldB F_sliceM wU wU q1 wU ?_)
        go_ret
        exact ⟨by rw [HEE.out]; rfl, hSr.b⟩
     ·go_enter Tryz.func8, Tryz.ntmps8
      go_wp2_with fail
      refine (HO.out _).mono ?_
      rintro e w1 ⟨rfl, rfl⟩
      go_wp2_with fail
      go_loopw [3] (fun i wr => ∃ k : Nat, k ≤ S.length ∧ i = .int .i64 k ∧ sg k = sg 0 ∧ SL w.heap.size w wr [pBlk w.heap.size (.cells #[.bool false, .int .i64 G, .int .i64 1, .slice ad S.length cap] 25)]) (fun i _ => S.length - (intOf i).toNat)
      case atStart => exact ⟨0, by omega, rfl, rfl, hS⟩
      case round =>
       clear hS
       obtain ⟨k, hk, rfl, hgo, hSr⟩ := hrel
       have q1 := (hSr.blk 0 rfl).1
       have hRr := hR.below hSr.b
       by_cases hlt : k < S.length
       ·have hst := HSW.out k hlt
        rw [hgo] at hst
        obtain ⟨x, hx⟩ : ∃ x, x = atD 0 S k := ⟨_, rfl⟩
        rw [← hx] at hst
        obtain ⟨b, hb⟩ : ∃ b, b = sh x := ⟨_, rfl⟩
        have CS := fun w => HCS'.out x w
        rw [← hb] at hst CS
        have HX := hid hx; have HC := hid CS
        clear hx hb CS hgo
        cases b
        ·rw [if_pos rfl] at hst
         have HST := hid hst
         clear hst
         go_wp2_with (with_reducible refine wpList_ldB F_sliceM wU wU q1 wU ?_)
         refine wp_region_q kR kR ?_
         repeat (first | ((with_reducible refine wpB_loadS (n := 4) (us := #[.bool false, .int .i64 G, .int .i64 1, .slice ad S.length cap]) A_rmach kR wU wU (by assumption) wU wU ?_); (try simp only [Act.put, pA, pB, pC])) | ((with_reducible refine wpB_load F_sliceM wU wU (by assumption) wU ?_); (try simp only [Act.put, pA, pB, pC])) | (((with_reducible refine wpB_idx2 0 E_ints F_int cInt1 wU (rfl) wU (hRr) oD oD (fun _ => wU) (fun _ => ?_)); (try simp only [Act.put, pA, pB, pC]); (try simp only [cInt])); rw [← HX.out]) | ((refine wpB_call (.bool false) wU (fun w' => ?_) (fun w' hw' => HC.out w') ?_); (focus (go_simp; done)); (try simp only [Act.put, pA, pB, pC])) |  ((with_reducible refine wpB_load (by first | exact F_int | exact F_u64s) wU wU (by assumption) wU ?_); (try simp only [Act.put, pA, pB, pC])) | ((refine wpQ_oneG ?_ wU (fun w' => ?_) ?_); rotate_left; (go_simp; rfl); (try simp only [Act.put, pA, pB, pC])))
         refine wpQuiet_nil ?_
         intro w4 hb4
         go_wp2_with fail
         go_ret
         exact ⟨by rw [HE.out, HST.out]; rfl, bnext hSr.b hb4⟩
        ·rw [if_neg (by decide)] at hst
         by_cases hk0 : k = 0
         ·have hst2 : sg (k + 1) = sg 0 := by rw [hst, if_neg (by omega)]
          have hd : decide (0 < k) = false := by simp; omega
          have HST := hid hst2
          clear hst hst2 hk0
          go_wp2_with (with_reducible refine wpList_ldB F_sliceM wU wU q1 wU ?_)
          refine wp_region_q kR kR ?_
          repeat (first | ((with_reducible refine wpB_loadS (n := 4) (us := #[.bool false, .int .i64 G, .int .i64 1, .slice ad S.length cap]) A_rmach kR wU wU (by assumption) wU wU ?_); (try simp only [Act.put, pA, pB, pC])) | ((with_reducible refine wpB_load F_sliceM wU wU (by assumption) wU ?_); (try simp only [Act.put, pA, pB, pC])) | (((with_reducible refine wpB_idx2 0 E_ints F_int cInt1 wU (rfl) wU (hRr) oD oD (fun _ => wU) (fun _ => ?_)); (try simp only [Act.put, pA, pB, pC]); (try simp only [cInt])); rw [← HX.out]) | ((refine wpB_call (.bool true) wU (fun w' => ?_) (fun w' hw' => HC.out w') ?_); (focus (go_simp; done)); (try simp only [Act.put, pA, pB, pC])) |  ((with_reducible refine wpB_load (by first | exact F_int | exact F_u64s) wU wU (by assumption) wU ?_); (try simp only [Act.put, pA, pB, pC])) | ((refine wpQ_oneG ?_ wU (fun w' => ?_) ?_); rotate_left; (go_simp; rfl); (try simp only [Act.put, pA, pB, pC])))
          refine wpQuiet_nil ?_
          intro w4 hb4
          have hS4 := hSr.mono hb4
          have q4 := (hS4.blk 0 rfl).1
          go_wp2_with fail
          refine wp_region_q kR kR ?_
          repeat (first | ((try simp only [hd]); ((with_reducible refine wpQ_skip wU ?_); (try simp only [Act.put, pA, pB, pC]))) |  ((with_reducible refine wpB_load (by first | exact F_int | exact F_u64s) wU wU (by assumption) wU ?_); (try simp only [Act.put, pA, pB, pC])) | ((refine wpQ_oneG ?_ wU (fun w' => ?_) ?_); rotate_left; (go_simp; rfl); (try simp only [Act.put, pA, pB, pC])))
          refine wpQuiet_nil ?_
          intro w5 hb5
          have hS5 := hS4.mono hb5
          go_wp2_with fail
          exact ⟨⟨k + 1, by omega, by go_num, HST.out, hS5⟩, by simp [intOf]; omega⟩
         ·have hd : decide (0 < k) = true := by simp; omega
          have hk1 : 0 ≤ (k : Int) - 1 ∧ (k : Int) - 1 < S.length := by omega
          have hwk : IntKind.i64.wrap ((k : Int) - 1) = (k : Int) - 1 := IntWalk.i64_in _ (by omega)
          obtain ⟨y, hy⟩ : ∃ y, y = atD 0 S ((k : Int) - 1) := ⟨_, rfl⟩
          rw [← hy] at hst
          have HY := hid hy
          clear hy
          by_cases hxy : x ≤ y
          ·rw [if_pos ⟨by omega, hxy⟩] at hst
           have HST := hid hst
           have hdx : decide (x ≤ y) = true := decide_eq_true hxy
           clear hst hk0
           go_wp2_with (with_reducible refine wpList_ldB F_sliceM wU wU q1 wU ?_)
           refine wp_region_q kR kR ?_
           repeat (first | ((with_reducible refine wpB_loadS (n := 4) (us := #[.bool false, .int .i64 G, .int .i64 1, .slice ad S.length cap]) A_rmach kR wU wU (by assumption) wU wU ?_); (try simp only [Act.put, pA, pB, pC])) | ((with_reducible refine wpB_load F_sliceM wU wU (by assumption) wU ?_); (try simp only [Act.put, pA, pB, pC])) | (((with_reducible refine wpB_idx2 0 E_ints F_int cInt1 wU (rfl) wU (hRr) oD oD (fun _ => wU) (fun _ => ?_)); (try simp only [Act.put, pA, pB, pC]); (try simp only [cInt])); rw [← HX.out]) | ((refine wpB_call (.bool true) wU (fun w' => ?_) (fun w' hw' => HC.out w') ?_); (focus (go_simp; done)); (try simp only [Act.put, pA, pB, pC])) |  ((with_reducible refine wpB_load (by first | exact F_int | exact F_u64s) wU wU (by assumption) wU ?_); (try simp only [Act.put, pA, pB, pC])) | ((refine wpQ_oneG ?_ wU (fun w' => ?_) ?_); rotate_left; (go_simp; rfl); (try simp only [Act.put, pA, pB, pC])))
           refine wpQuiet_nil ?_
           intro w4 hb4
           have hS4 := hSr.mono hb4
           have q4 := (hS4.blk 0 rfl).1
           have hR4 := hR.below hS4.b
           clear q1
           go_wp2_with fail
           refine wp_region_q kR kR ?_
           repeat (first | ((try simp only [hd]); ((with_reducible refine wpB_load F_sliceM wU wU (by assumption) wU ?_); (try simp only [Act.put, pA, pB, pC]))) | (((with_reducible refine wpB_idxW 0 E_ints F_int cInt1 wU (rfl) wU (hR4) oD oD (fun _ => wU) wU (fun _ => wU) (fun _ => ?_)); (try simp only [Act.put, pA, pB, pC]); (try simp only [cInt])); first | rw [← HX.out] | rw [← HY.out]) |  ((with_reducible refine wpB_load (by first | exact F_int | exact F_u64s) wU wU (by assumption) wU ?_); (try simp only [Act.put, pA, pB, pC])) | ((refine wpQ_oneG ?_ wU (fun w' => ?_) ?_); rotate_left; (go_simp; rfl); (try simp only [Act.put, pA, pB, pC])))
           refine wpQuiet_nil ?_
           intro w5 hb5
           go_wp2_with fail
           go_ret
           exact ⟨by rw [HE.out, HST.out]; rfl, bnext hS4.b hb5⟩
          ·rw [if_neg (fun h => hxy h.2)] at hst
           have HST := hid hst
           have hdx : decide (x ≤ y) = false := decide_eq_false hxy
           clear hst hk0
           go_wp2_with (with_reducible refine wpList_ldB F_sliceM wU wU q1 wU ?_)
           refine wp_region_q kR kR ?_
           repeat (first | ((with_reducible refine wpB_loadS (n := 4) (us := #[.bool false, .int .i64 G, .int .i64 1, .slice ad S.length cap]) A_rmach kR wU wU (by assumption) wU wU ?_); (try simp only [Act.put, pA, pB, pC])) | ((with_reducible refine wpB_load F_sliceM wU wU (by assumption) wU ?_); (try simp only [Act.put, pA, pB, pC])) | (((with_reducible refine wpB_idx2 0 E_ints F_int cInt1 wU (rfl) wU (hRr) oD oD (fun _ => wU) (fun _ => ?_)); (try simp only [Act.put, pA, pB, pC]); (try simp only [cInt])); rw [← HX.out]) | ((refine wpB_call (.bool true) wU (fun w' => ?_) (fun w' hw' => HC.out w') ?_); (focus (go_simp; done)); (try simp only [Act.put, pA, pB, pC])) |  ((with_reducible refine wpB_load (by first | exact F_int | exact F_u64s) wU wU (by assumption) wU ?_); (try simp only [Act.put, pA, pB, pC])) | ((refine wpQ_oneG ?_ wU (fun w' => ?_) ?_); rotate_left; (go_simp; rfl); (try simp only [Act.put, pA, pB, pC])))
           refine wpQuiet_nil ?_
           intro w4 hb4
           have hS4 := hSr.mono hb4
           have q4 := (hS4.blk 0 rfl).1
           have hR4 := hR.below hS4.b
           clear q1
           go_wp2_with fail
           refine wp_region_q kR kR ?_
           repeat (first | ((try simp only [hd]); ((with_reducible refine wpB_load F_sliceM wU wU (by assumption) wU ?_); (try simp only [Act.put, pA, pB, pC]))) | (((with_reducible refine wpB_idxW 0 E_ints F_int cInt1 wU (rfl) wU (hR4) oD oD (fun _ => wU) wU (fun _ => wU) (fun _ => ?_)); (try simp only [Act.put, pA, pB, pC]); (try simp only [cInt])); first | rw [← HX.out] | rw [← HY.out]) |  ((with_reducible refine wpB_load (by first | exact F_int | exact F_u64s) wU wU (by assumption) wU ?_); (try simp only [Act.put, pA, pB, pC])) | ((refine wpQ_oneG ?_ wU (fun w' => ?_) ?_); rotate_left; (go_simp; rfl); (try simp only [Act.put, pA, pB, pC])))
           refine wpQuiet_nil ?_
           intro w5 hb5
           have hS5 := hS4.mono hb5
           go_wp2_with fail
           exact ⟨⟨k + 1, by omega, by go_num, HST.out.symm, hS5⟩, by simp [intOf]; omega⟩
       ·have hkn : k = S.length := by omega
        subst hkn
        have he : E = 0 := by rw [HE.out, ← hgo, HSE.out]
        have HEE := hid he
        clear he hgo
        go_wp2_with (with_reducible refine wpList_ldB F_sliceM wU wU q1 wU ?_)
        go_ret
        exact ⟨by rw [HEE.out]; rfl, hSr.b⟩
     ·go_enter Tryz.func8, Tryz.ntmps8
      go_wp2_with fail
      refine (HO.out _).mono ?_
      rintro e w1 ⟨rfl, rfl⟩
      go_wp2_with fail
      go_loopw [3] (fun i wr => ∃ k : Nat, k ≤ S.length ∧ i = .int .i64 k ∧ sg k = sg 0 ∧ SL w.heap.size w wr [pBlk w.heap.size (.cells #[.bool false, .int .i64 G, .int .i64 (-1), .slice ad S.length cap] 25)]) (fun i _ => S.length - (intOf i).toNat)
      case atStart => exact ⟨0, by omega, rfl, rfl, hS⟩
      case round =>
       clear hS
       obtain ⟨k, hk, rfl, hgo, hSr⟩ := hrel
       have q1 := (hSr.blk 0 rfl).1
       have hRr := hR.below hSr.b
       by_cases hlt : k < S.length
       ·have hst := HSW.out k hlt
        rw [hgo] at hst
        obtain ⟨x, hx⟩ : ∃ x, x = atD 0 S k := ⟨_, rfl⟩
        rw [← hx] at hst
        obtain ⟨b, hb⟩ : ∃ b, b = sh x := ⟨_, rfl⟩
        have CS := fun w => HCS'.out x w
        rw [← hb] at hst CS
        have HX := hid hx; have HC := hid CS
        clear hx hb CS hgo
        cases b
        ·rw [if_pos rfl] at hst
         have HST := hid hst
         clear hst
         go_wp2_with (with_reducible refine wpList_ldB F_sliceM wU wU q1 wU ?_)
         refine wp_region_q kR kR ?_
         repeat (first | ((with_reducible refine wpB_loadS (n := 4) (us := #[.bool false, .int .i64 G, .int .i64 (-1), .slice ad S.length cap]) A_rmach kR wU wU (by assumption) wU wU ?_); (try simp only [Act.put, pA, pB, pC])) | ((with_reducible refine wpB_load F_sliceM wU wU (by assumption) wU ?_); (try simp only [Act.put, pA, pB, pC])) | (((with_reducible refine wpB_idx2 0 E_ints F_int cInt1 wU (rfl) wU (hRr) oD oD (fun _ => wU) (fun _ => ?_)); (try simp only [Act.put, pA, pB, pC]); (try simp only [cInt])); rw [← HX.out]) | ((refine wpB_call (.bool false) wU (fun w' => ?_) (fun w' hw' => HC.out w') ?_); (focus (go_simp; done)); (try simp only [Act.put, pA, pB, pC])) |  ((with_reducible refine wpB_load (by first | exact F_int | exact F_u64s) wU wU (by assumption) wU ?_); (try simp only [Act.put, pA, pB, pC])) | ((refine wpQ_oneG ?_ wU (fun w' => ?_) ?_); rotate_left; (go_simp; rfl); (try simp only [Act.put, pA, pB, pC])))
         refine wpQuiet_nil ?_
         intro w4 hb4
         go_wp2_with fail
         go_ret
         exact ⟨by rw [HE.out, HST.out]; rfl, bnext hSr.b hb4⟩
        ·rw [if_neg (by decide)] at hst
         by_cases hk0 : k = 0
         ·have hst2 : sg (k + 1) = sg 0 := by rw [hst, if_neg (by omega)]
          have hd : decide (0 < k) = false := by simp; omega
          have HST := hid hst2
          clear hst hst2 hk0
          go_wp2_with (with_reducible refine wpList_ldB F_sliceM wU wU q1 wU ?_)
          refine wp_region_q kR kR ?_
          repeat (first | ((with_reducible refine wpB_loadS (n := 4) (us := #[.bool false, .int .i64 G, .int .i64 (-1), .slice ad S.length cap]) A_rmach kR wU wU (by assumption) wU wU ?_); (try simp only [Act.put, pA, pB, pC])) | ((with_reducible refine wpB_load F_sliceM wU wU (by assumption) wU ?_); (try simp only [Act.put, pA, pB, pC])) | (((with_reducible refine wpB_idx2 0 E_ints F_int cInt1 wU (rfl) wU (hRr) oD oD (fun _ => wU) (fun _ => ?_)); (try simp only [Act.put, pA, pB, pC]); (try simp only [cInt])); rw [← HX.out]) | ((refine wpB_call (.bool true) wU (fun w' => ?_) (fun w' hw' => HC.out w') ?_); (focus (go_simp; done)); (try simp only [Act.put, pA, pB, pC])) |  ((with_reducible refine wpB_load (by first | exact F_int | exact F_u64s) wU wU (by assumption) wU ?_); (try simp only [Act.put, pA, pB, pC])) | ((refine wpQ_oneG ?_ wU (fun w' => ?_) ?_); rotate_left; (go_simp; rfl); (try simp only [Act.put, pA, pB, pC])))
          refine wpQuiet_nil ?_
          intro w4 hb4
          have hS4 := hSr.mono hb4
          have q4 := (hS4.blk 0 rfl).1
          go_wp2_with fail
          refine wp_region_q kR kR ?_
          repeat (first | ((try simp only [hd]); ((with_reducible refine wpQ_skip wU ?_); (try simp only [Act.put, pA, pB, pC]))) |  ((with_reducible refine wpB_load (by first | exact F_int | exact F_u64s) wU wU (by assumption) wU ?_); (try simp only [Act.put, pA, pB, pC])) | ((refine wpQ_oneG ?_ wU (fun w' => ?_) ?_); rotate_left; (go_simp; rfl); (try simp only [Act.put, pA, pB, pC])))
          refine wpQuiet_nil ?_
          intro w5 hb5
          have hS5 := hS4.mono hb5
          go_wp2_with fail
          exact ⟨⟨k + 1, by omega, by go_num, HST.out, hS5⟩, by simp [intOf]; omega⟩
         ·have hd : decide (0 < k) = true := by simp; omega
          have hk1 : 0 ≤ (k : Int) - 1 ∧ (k : Int) - 1 < S.length := by omega
          have hwk : IntKind.i64.wrap ((k : Int) - 1) = (k : Int) - 1 := IntWalk.i64_in _ (by omega)
          obtain ⟨y, hy⟩ : ∃ y, y = atD 0 S ((k : Int) - 1) := ⟨_, rfl⟩
          rw [← hy] at hst
          have HY := hid hy
          clear hy
          by_cases hxy : x ≤ y
          ·rw [if_pos ⟨by omega, hxy⟩] at hst
           have HST := hid hst
           have hdx : decide (x ≤ y) = true := decide_eq_true hxy
           clear hst hk0
           go_wp2_with (with_reducible refine wpList_ldB F_sliceM wU wU q1 wU ?_)
           refine wp_region_q kR kR ?_
           repeat (first | ((with_reducible refine wpB_loadS (n := 4) (us := #[.bool false, .int .i64 G, .int .i64 (-1), .slice ad S.length cap]) A_rmach kR wU wU (by assumption) wU wU ?_); (try simp only [Act.put, pA, pB, pC])) | ((with_reducible refine wpB_load F_sliceM wU wU (by assumption) wU ?_); (try simp only [Act.put, pA, pB, pC])) | (((with_reducible refine wpB_idx2 0 E_ints F_int cInt1 wU (rfl) wU (hRr) oD oD (fun _ => wU) (fun _ => ?_)); (try simp only [Act.put, pA, pB, pC]); (try simp only [cInt])); rw [← HX.out]) | ((refine wpB_call (.bool true) wU (fun w' => ?_) (fun w' hw' => HC.out w') ?_); (focus (go_simp; done)); (try simp only [Act.put, pA, pB, pC])) |  ((with_reducible refine wpB_load (by first | exact F_int | exact F_u64s) wU wU (by assumption) wU ?_); (try simp only [Act.put, pA, pB, pC])) | ((refine wpQ_oneG ?_ wU (fun w' => ?_) ?_); rotate_left; (go_simp; rfl); (try simp only [Act.put, pA, pB, pC])))
           refine wpQuiet_nil ?_
           intro w4 hb4
           have hS4 := hSr.mono hb4
           have q4 := (hS4.blk 0 rfl).1
           have hR4 := hR.below hS4.b
           clear q1
           go_wp2_with fail
           refine wp_region_q kR kR ?_
           repeat (first | ((try simp only [hd]); ((with_reducible refine wpB_load F_sliceM wU wU (by assumption) wU ?_); (try simp only [Act.put, pA, pB, pC]))) | (((with_reducible refine wpB_idxW 0 E_ints F_int cInt1 wU (rfl) wU (hR4) oD oD (fun _ => wU) wU (fun _ => wU) (fun _ => ?_)); (try simp only [Act.put, pA, pB, pC]); (try simp only [cInt])); first | rw [← HX.out] | rw [← HY.out]) |  ((with_reducible refine wpB_load (by first | exact F_int | exact F_u64s) wU wU (by assumption) wU ?_); (try simp only [Act.put, pA, pB, pC])) | ((refine wpQ_oneG ?_ wU (fun w' => ?_) ?_); rotate_left; (go_simp; rfl); (try simp only [Act.put, pA, pB, pC])))
           refine wpQuiet_nil ?_
           intro w5 hb5
           go_wp2_with fail
           go_ret
           exact ⟨by rw [HE.out, HST.out]; rfl, bnext hS4.b hb5⟩
          ·rw [if_neg (fun h => hxy h.2)] at hst
           have HST := hid hst
           have hdx : decide (x ≤ y) = false := decide_eq_false hxy
           clear hst hk0
           go_wp2_with (with_reducible refine wpList_ldB F_sliceM wU wU q1 wU ?_)
           refine wp_region_q kR kR ?_
           repeat (first | ((with_reducible refine wpB_loadS (n := 4) (us := #[.bool false, .int .i64 G, .int .i64 (-1), .slice ad S.length cap]) A_rmach kR wU wU (by assumption) wU wU ?_); (try simp only [Act.put, pA, pB, pC])) | ((with_reducible refine wpB_load F_sliceM wU wU (by assumption) wU ?_); (try simp only [Act.put, pA, pB, pC])) | (((with_reducible refine wpB_idx2 0 E_ints F_int cInt1 wU (rfl) wU (hRr) oD oD (fun _ => wU) (fun _ => ?_)); (try simp only [Act.put, pA, pB, pC]); (try simp only [cInt])); rw [← HX.out]) | ((refine wpB_call (.bool true) wU (fun w' => ?_) (fun w' hw' => HC.out w') ?_); (focus (go_simp; done)); (try simp only [Act.put, pA, pB, pC])) |  ((with_reducible refine wpB_load (by first | exact F_int | exact F_u64s) wU wU (by assumption) wU ?_); (try simp only [Act.put, pA, pB, pC])) | ((refine wpQ_oneG ?_ wU (fun w' => ?_) ?_); rotate_left; (go_simp; rfl); (try simp only [Act.put, pA, pB, pC])))
           refine wpQuiet_nil ?_
           intro w4 hb4
           have hS4 := hSr.mono hb4
           have q4 := (hS4.blk 0 rfl).1
           have hR4 := hR.below hS4.b
           clear q1
           go_wp2_with fail
           refine wp_region_q kR kR ?_
           repeat (first | ((try simp only [hd]); ((with_reducible refine wpB_load F_sliceM wU wU (by assumption) wU ?_); (try simp only [Act.put, pA, pB, pC]))) | (((with_reducible refine wpB_idxW 0 E_ints F_int cInt1 wU (rfl) wU (hR4) oD oD (fun _ => wU) wU (fun _ => wU) (fun _ => ?_)); (try simp only [Act.put, pA, pB, pC]); (try simp only [cInt])); first | rw [← HX.out] | rw [← HY.out]) |  ((with_reducible refine wpB_load (by first | exact F_int | exact F_u64s) wU wU (by assumption) wU ?_); (try simp only [Act.put, pA, pB, pC])) | ((refine wpQ_oneG ?_ wU (fun w' => ?_) ?_); rotate_left; (go_simp; rfl); (try simp only [Act.put, pA, pB, pC])))
           refine wpQuiet_nil ?_
           intro w5 hb5
           have hS5 := hS4.mono hb5
           go_wp2_with fail
           exact ⟨⟨k + 1, by omega, by go_num, HST.out.symm, hS5⟩, by simp [intOf]; omega⟩
       ·have hkn : k = S.length := by omega
        subst hkn
        have he : E = 0 := by rw [HE.out, ← hgo, HSE.out]
        have HEE := hid he
        clear he hgo
        go_wp2_with (with_reducible refine wpList_ldB F_sliceM wU wU q1 wU ?_)
        go_ret
        exact ⟨by rw [HEE.out]; rfl, hSr.b⟩
end Go.Proofs.YtndmeaoidihikaaGreatDoor

namespace Go.Proofs.YtndmeaoidihikaaGreatDoor
open Go.RowKit
set_option maxHeartbeats 4000000
set_option maxRecDepth 100000
theorem take_not_mem {l : List Int} {x : Int} {k : Nat} (hk : k ≤ l.length) (h : ∀ i : Nat, i < k → atD 0 l i ≠ x) : x ∉ l.take k := by
 intro hm
 obtain ⟨i, hi, e⟩ := List.getElem_of_mem hm
 rw [List.length_take] at hi
 refine h i (by omega) ?_
 rw [← e, List.getElem_take]
 have : i < l.length := by omega
 simp [atD, this]
theorem take_mem {l : List Int} {x : Int} {k j : Nat} (hk : k ≤ l.length) (hj : j < k) (h : atD 0 l j = x) : x ∈ l.take k := by
 have hjl : j < l.length := by omega
 have e : atD 0 l j = l[j] := by simp [atD, hjl]
 rw [← h, e, List.mem_take_iff_getElem]
 exact ⟨j, by omega, rfl⟩
theorem rCheckLoad_any (m : MacV) (ad : Option Addr) (cap : Nat) (al : Option Addr) (cl : Nat) (l : List Int) (w : World) (hL : Ints w al cl l) (hg0 : 1 ≤ m.gears) (hg : m.gears ≤ 16) :
  Calls Tryz.prog 22 #[mV m ad cap, .slice al l.length cl] w fun r w' => r = .returned (.int .i64 (if 4 * m.gears < l.length then 5 else loadGo m [] l)) ∧ Below w.heap.size w w' := by
 have hcap := hL.le
 have hmx := hL.max
 have hlen : l.length ≤ 9223372036854775807 := by have := hL.max; unfold maxLen at this; omega
 obtain ⟨n, hn⟩ : ∃ n : Nat, 4 * m.gears = n := ⟨(4 * m.gears).toNat, by omega⟩
 have CN := fun w => rSlots_any m ad cap w (by omega) hg
 have HST := fun (k : Nat) (h : k < l.length) => loadGo_step m h
 rw [hn] at CN HST ⊢
 have hn64 : 1 ≤ n ∧ n ≤ 64 := by omega
 have CO := fun (x : Int) w => rOutside_any x 0 ((n : Int) - 1) w
 have hwn : IntKind.i64.wrap ((n : Int) - 1) = (n : Int) - 1 := IntWalk.i64_in _ (by omega)
 have hS := (SL.nil w).box (.cells (mC m ad cap) 25)
 obtain ⟨R, hR⟩ : ∃ R : Int, R = (if (n : Int) < l.length then 5 else loadGo m [] l) := ⟨_, rfl⟩
 rw [← hR]
 have HN := hid CN; have HT := hid HST; have HO := hid CO
 clear CN HST CO hn
 by_cases hb : (n : Int) < l.length
 ·rw [if_pos hb] at hR
  subst hR
  go_enter Tryz.func22, Tryz.ntmps22
  go_wp2_with fail
  refine (HN.out _).mono ?_
  rintro e w1 ⟨rfl, b1⟩
  have hS1 := hS.mono b1
  go_wp2_with fail
  go_ret
  exact ⟨rfl, hS1.b⟩
 ·rw [if_neg hb] at hR
  have HR := hid hR
  clear hR
  have hl64 : l.length ≤ 64 := by omega
  go_enter Tryz.func22, Tryz.ntmps22
  go_wp2_with fail
  refine (HN.out _).mono ?_
  rintro e w1 ⟨rfl, b1⟩
  have hS1 := hS.mono b1
  go_wp2_with fail
  go_loopw [5] (fun i wr => ∃ k : Nat, k ≤ l.length ∧ i = .int .i64 k ∧ loadGo m (l.take k) (l.drop k) = loadGo m [] l ∧ SL w.heap.size w wr [pBlk w.heap.size (.cells (mC m ad cap) 25)]) (fun i _ => l.length - (intOf i).toNat)
  case atStart => exact ⟨0, by omega, rfl, by simp, hS1⟩
  case round =>
   clear hS hS1
   obtain ⟨k, hk, rfl, hgo, hSr⟩ := hrel
   have q1 := (hSr.blk 0 rfl).1
   have hLr := hL.below hSr.b
   by_cases hlt : k < l.length
   ·have hst := HT.out k hlt
    rw [hgo, ← HR.out] at hst
    obtain ⟨x, hx⟩ : ∃ x, x = atD 0 l k := ⟨_, rfl⟩
    rw [← hx] at hst
    have HX := hid hx
    clear hx hgo
    have CO := fun w => HO.out x w
    by_cases hxo : x < 0 ∨ (n : Int) ≤ x
    ·rw [if_pos hxo] at hst
     have hb : (decide (x < 0) || decide ((n : Int) - 1 < x)) = true := by simp; omega
     rw [hb] at CO
     have HC := hid CO
     clear CO hb hxo
     subst hst
     go_wp2_with fail
     refine wp_region_q kR kR ?_
     repeat (first | (((with_reducible refine wpB_idx2 0 E_ints F_int cInt1 wU (rfl) wU (hLr) oD oD (fun _ => wU) (fun _ => ?_)); (try simp only [Act.put, pA, pB, pC]); (try simp only [cInt])); rw [← HX.out]) | ((with_reducible refine wpB_loadS (n := 4) (us := mC m ad cap) A_rmach kR wU wU (by assumption) wU wU ?_); (try simp only [Act.put, pA, pB, pC])) | ((refine wpB_call (.int .i64 n) wU (fun w' => ?_) (fun w' hw' => HN.out w') ?_); (focus (go_simp; done)); (try simp only [Act.put, pA, pB, pC])) | ((refine wpB_call (.bool true) wU (fun w' => ?_) (fun w' hw' => calls_below (HC.out w')) ?_); (focus (go_simp; done)); (try simp only [Act.put, pA, pB, pC])) |  ((with_reducible refine wpB_load (by first | exact F_int | exact F_u64s) wU wU (by assumption) wU ?_); (try simp only [Act.put, pA, pB, pC])) | ((refine wpQ_oneG ?_ wU (fun w' => ?_) ?_); rotate_left; (go_simp; rfl); (try simp only [Act.put, pA, pB, pC])))
     refine wpQuiet_nil ?_
     intro w4 hb4
     go_wp2_with fail
     go_ret
     exact ⟨rfl, bnext hSr.b hb4⟩
    ·rw [if_neg hxo] at hst
     have hb : (decide (x < 0) || decide ((n : Int) - 1 < x)) = false := by simp; omega
     rw [hb] at CO
     have HC := hid CO; have HS := hid hst
     clear CO hb hxo hst
     go_wp2_with fail
     refine wp_region_q kR kR ?_
     repeat (first | (((with_reducible refine wpB_idx2 0 E_ints F_int cInt1 wU (rfl) wU (hLr) oD oD (fun _ => wU) (fun _ => ?_)); (try simp only [Act.put, pA, pB, pC]); (try simp only [cInt])); rw [← HX.out]) | ((with_reducible refine wpB_loadS (n := 4) (us := mC m ad cap) A_rmach kR wU wU (by assumption) wU wU ?_); (try simp only [Act.put, pA, pB, pC])) | ((refine wpB_call (.int .i64 n) wU (fun w' => ?_) (fun w' hw' => HN.out w') ?_); (focus (go_simp; done)); (try simp only [Act.put, pA, pB, pC])) | ((refine wpB_call (.bool false) wU (fun w' => ?_) (fun w' hw' => calls_below (HC.out w')) ?_); (focus (go_simp; done)); (try simp only [Act.put, pA, pB, pC])) |  ((with_reducible refine wpB_load (by first | exact F_int | exact F_u64s) wU wU (by assumption) wU ?_); (try simp only [Act.put, pA, pB, pC])) | ((refine wpQ_oneG ?_ wU (fun w' => ?_) ?_); rotate_left; (go_simp; rfl); (try simp only [Act.put, pA, pB, pC])))
     refine wpQuiet_nil ?_
     intro w4 hb4
     have hS4 := hSr.mono hb4
     clear q1 hLr hSr hb4
     go_wp2_with fail
     go_loopw [6] (fun i wr => ∃ j : Nat, j ≤ k ∧ i = .int .i64 j ∧ (∀ i : Nat, i < j → atD 0 l i ≠ x) ∧ SL w.heap.size w wr [pBlk w.heap.size (.cells (mC m ad cap) 25)]) (fun i _ => k - (intOf i).toNat)
     case atStart => exact ⟨0, by omega, rfl, fun i hi => absurd hi (Nat.not_lt_zero i), hS4⟩
     case round =>
      clear hS4
      obtain ⟨j, hj, rfl, hno, hS5⟩ := hrel
      have hL5 := hL.below hS5.b
      have HNO := hid hno
      clear hno
      by_cases hjk : j < k
      ·have hjl : (j : Int) < l.length := by omega
       obtain ⟨y, hy⟩ : ∃ y, y = atD 0 l j := ⟨_, rfl⟩
       have HY := hid hy
       clear hy
       by_cases hyx : y = x
       ·have hd : (y == x) = true := by simpa using hyx
        have hR9 : R = 9 := by rw [HS.out, if_pos (take_mem (by omega) hjk (by rw [← HY.out, hyx]))]
        clear hyx
        subst hR9
        go_wp2_with fail
        refine wp_region_q kR kR ?_
        repeat (first | (((with_reducible refine wpB_idx2 0 E_ints F_int cInt1 wU (rfl) wU (hL5) oD oD (fun _ => wU) (fun _ => ?_)); (try simp only [Act.put, pA, pB, pC]); (try simp only [cInt])); first | rw [← HY.out] | rw [← HX.out]) |  ((with_reducible refine wpB_load (by first | exact F_int | exact F_u64s) wU wU (by assumption) wU ?_); (try simp only [Act.put, pA, pB, pC])) | ((refine wpQ_oneG ?_ wU (fun w' => ?_) ?_); rotate_left; (go_simp; rfl); (try simp only [Act.put, pA, pB, pC])))
        refine wpQuiet_nil ?_
        intro w6 hb6
        go_wp2_with fail
        go_ret
        exact ⟨rfl, bnext hS5.b hb6⟩
       ·have hd : (y == x) = false := by simpa using hyx
        have hno2 : ∀ i : Nat, i < j + 1 → atD 0 l i ≠ x := fun i hi => by
         by_cases e : i = j
         ·subst e; rw [← HY.out]; exact hyx
         ·exact HNO.out i (by omega)
        have HN2 := hid hno2
        clear hyx hno2
        go_wp2_with fail
        refine wp_region_q kR kR ?_
        repeat (first | (((with_reducible refine wpB_idx2 0 E_ints F_int cInt1 wU (rfl) wU (hL5) oD oD (fun _ => wU) (fun _ => ?_)); (try simp only [Act.put, pA, pB, pC]); (try simp only [cInt])); first | rw [← HY.out] | rw [← HX.out]) |  ((with_reducible refine wpB_load (by first | exact F_int | exact F_u64s) wU wU (by assumption) wU ?_); (try simp only [Act.put, pA, pB, pC])) | ((refine wpQ_oneG ?_ wU (fun w' => ?_) ?_); rotate_left; (go_simp; rfl); (try simp only [Act.put, pA, pB, pC])))
        refine wpQuiet_nil ?_
        intro w6 hb6
        have hS6 := hS5.mono hb6
        go_wp2_with fail
        exact ⟨⟨j + 1, by omega, by go_num, HN2.out, hS6⟩, by simp [intOf]; omega⟩
      ·have hjk2 : j = k := by omega
       subst hjk2
       have hR2 : R = loadGo m (l.take (j + 1)) (l.drop (j + 1)) := by rw [HS.out, if_neg (take_not_mem (by omega) HNO.out)]
       have H2 := hid hR2
       clear hR2
       go_wp2_with fail
       exact ⟨⟨j + 1, by omega, by go_num, by rw [← H2.out, HR.out], hS5⟩, by simp [intOf]; omega⟩
   ·have hkn : k = l.length := by omega
    subst hkn
    rw [List.drop_length] at hgo
    have e : R = 0 := by rw [HR.out, ← hgo]; rfl
    clear hgo HR
    subst e
    go_wp2_with fail
    go_ret
    exact ⟨rfl, hSr.b⟩
end Go.Proofs.YtndmeaoidihikaaGreatDoor

namespace Go.Proofs.YtndmeaoidihikaaGreatDoor
open Go.RowKit
set_option maxHeartbeats 4000000
set_option maxRecDepth 100000
theorem lcheck_any (m : MacV) (ad : Option Addr) (cap : Nat) (al : Option Addr) (cl : Nat) (l : List Int) (w : World) (hR : Ints w ad cap m.sw) (hL : Ints w al cl l) :
  Calls Tryz.prog 52 #[mV m ad cap, .slice al l.length cl] w fun r w' => r = .returned (.int .i64 (loadE m l)) ∧ Below w.heap.size w w' := by
 have hS := (SL.nil w).box (.cells (mC m ad cap) 25)
 have CM := fun w h => rCheckMachine_any m ad cap w h
 have R1 := hR.below hS.b
 by_cases he : macE m = 0
 ·have hok := (macE_zero he).1
  have CL := fun w h => rCheckLoad_any m ad cap al cl l w h hok.lo hok.hi
  have hE : loadE m l = if 4 * m.gears < l.length then 5 else loadGo m [] l := by unfold loadE; rw [if_neg (by simp [he])]
  rw [he] at CM
  rw [← hE] at CL
  have HM := hid CM; have HL := hid CL
  clear CM CL hE he hok
  go_enter Tryz.func52, Tryz.ntmps52
  go_wp2_with fail
  refine (HM.out _ R1).mono ?_
  rintro e w1 ⟨rfl, b1⟩
  have hS1 := hS.mono b1
  have q1 := (hS1.blk 0 rfl).1
  go_wp2_with (with_reducible refine wpList_ldS (n := 4) (us := mC m ad cap) A_rmach kR wU wU (by assumption) wU wU ?_)
  refine (HL.out _ (hL.below hS1.b)).mono ?_
  rintro e w2 ⟨rfl, b2⟩
  go_wp2_with fail
  go_ret
  exact ⟨rfl, bnext hS1.b b2⟩
 ·have hE : loadE m l = macE m := by unfold loadE; rw [if_pos he]
  have hne : (macE m != 0) = true := by simpa using he
  rw [hE]
  obtain ⟨E, hEE⟩ : ∃ E, E = macE m := ⟨_, rfl⟩
  rw [← hEE] at CM hne ⊢
  have HM := hid CM
  clear CM hE he hEE
  go_enter Tryz.func52, Tryz.ntmps52
  go_wp2_with fail
  refine (HM.out _ R1).mono ?_
  rintro e w1 ⟨rfl, b1⟩
  have hS1 := hS.mono b1
  go_wp2_with fail
  go_ret
  exact ⟨rfl, hS1.b⟩
end Go.Proofs.YtndmeaoidihikaaGreatDoor
