/- Contracts: Back, and the reference's Back. Conditions: passes readable, sizes as stated. Contracts: Back, and the reference's Back. Conditions: passes readable and accepted, sizes as stated. Contract of the reference: Back. Conditions: passes readable, ways of 1 to 64 signs. -/
import Derived.Test.YtogbclcnmogaeaaGreatDoorRPA
import Derived.Laws.IdiomStrings
set_option linter.all false
/- Contracts: Back, and the reference's Back. Conditions: passes readable, sizes as stated. -/
namespace Go.Proofs.YtogbclcnmogaeaaGreatDoor
open Go.RowKit
set_option maxHeartbeats 2000000
set_option maxRecDepth 100000

def cB (b : UInt8) : Value := .int .u8 b.toNat
attribute [go_sem] cB
theorem cB1 (x : UInt8) : (cB x).cells = #[cB x] := rfl
theorem cBS (x : UInt8) : (cB x).cells.size = 1 := rfl
theorem cBO (x : UInt8) : ∀ u ∈ (cB x).cells.toList, u.oneCell' = true := by intro u hu; simp [cB, Value.cells] at hu; subst hu; rfl
theorem E_bytes : ETy Tryz.prog 179 5 (.int .u8 0) 1 1 := ⟨Tryz.underlying179, by kernel_rfl, rfl, by decide⟩
theorem F_u8 : Flat Tryz.prog 5 := ⟨_, Tryz.underlying5, rfl⟩

theorem byteC_any (x : Int) (w : World) :
    Calls Tryz.prog 141 #[.int .u8 x] w fun r w' => r = .returned (.int .u8 x) ∧ w = w' := by
  go_enter Tryz.func141, Tryz.ntmps141
  go_wp2
  go_ret
  exact ⟨rfl, rfl⟩
theorem revB_at {l : List UInt8} {k : Nat} (h : k < l.length) {j : Int} (hj : j = (l.length : Int) - 1 - k) : atD 0 l.reverse k = atD 0 l j := by
  have h1 : j.toNat = l.length - 1 - k := by omega
  have h2 : l.length - 1 - k < l.length := by omega
  unfold atD
  rw [h1, List.getD_eq_getElem?_getD, Int.toNat_natCast, List.getElem?_reverse h, List.getD_eq_getElem?_getD]
theorem revBytes_any (a : Option Addr) (cap : Nat) (l : List UInt8) (w : World) (hS : Reps cB 1 w a cap l) (hl : l.length ≤ 1048576) :
    Calls Tryz.prog 140 #[.slice a l.length cap, .func (.func 141) #[] #[]] w fun r w' => ∃ v, r = .returned v ∧ Own cB 1 w.heap.size 5 w' v l.reverse ∧ Below w.heap.size w w' := by
  have hcap := hS.le
  have hm := hS.max
  go_enter Tryz.func140, Tryz.ntmps140
  go_wp2_with fail
  go_loopw [5, 6, 9] (fun v _ i wr => ∃ k : Nat, k ≤ l.length ∧ i = .int .i64 k ∧ Own cB 1 w.heap.size 5 wr v (l.reverse.take k) ∧ Below w.heap.size w wr) (fun _ _ i _ => l.length - (intOf i).toNat)
  case atStart => exact ⟨0, by omega, rfl, own_nil cBS, Below.refl _ _⟩
  case round =>
    obtain ⟨k, hk, rfl, hO, hbr⟩ := hrel
    have hSr := hS.below hbr
    have hbs := hbr.size
    have hle : (l.reverse.take k).length ≤ 1048576 := by simp; omega
    by_cases hlt : k < l.length
    · have hs := take_step (0 : UInt8) l.reverse k (by simpa using hlt)
      rw [revB_at hlt rfl] at hs
      obtain ⟨o, ho⟩ : ∃ o, o = l.reverse.take k := ⟨_, rfl⟩
      rw [← ho] at hs hO hle
      have HS := hid hs; clear hs ho
      obtain ⟨x, hx⟩ : ∃ x, x = atD 0 l ((l.length : Int) - 1 - k) := ⟨_, rfl⟩
      have HX := hid hx; clear hx
      go_wp2_with (first | (with_reducible refine wpList_idx _ 0 E_bytes F_u8 cB1 (by with_unfolding_all rfl) (by with_unfolding_all rfl) (hSr) (by first | omega | (simp; done)) (by first | omega | (simp; done)) (fun _ => by with_unfolding_all rfl) (fun _ => ?_)))
      rw [← HX.out]
      refine (byteC_any x.toNat wr).mono ?_
      rintro e w2 ⟨rfl, rfl⟩
      go_wp2_with (first | ((with_reducible refine wpList_app (l := o) (ys := [x]) E_bytes (by with_unfolding_all rfl) (by with_unfolding_all rfl) ((hO).alloc _) (reps_new1 cBS (x) _ _ (by simp) rfl) cBO (by simp; omega) (by first | omega | (simp; omega)) (by simp; omega) ?_); intro v3 w3 ho3 hg3 hat3))
      exact ⟨⟨k + 1, by omega, by go_num, by rw [HS.out, ← HX.out]; exact ho3, below_own (bal hbr (.cells #[.int .u8 x.toNat] 5)) hg3 (hO.alloc _) (Nat.le_refl _)⟩, by simp [intOf]; omega⟩
    · have : k = l.length := by omega
      subst this
      rw [List.take_of_length_le (by simp)] at hO
      clear hle
      go_wp2_with fail
      go_ret
      exact ⟨_, rfl, hO, hbr⟩

section
variable {P : Program} {ops : Array Oper} {rest : List Oper} {a : Act} {Q : Exit → Act → World → Prop} {d : Option Tmp} {src dst e ty : TypeId} {p : String} {x : Operand} {af : Array Edge} {w : World}
theorem wpList_bytes (s : ByteArray) (hs : P.underlying src = some .string) (hd : P.underlying dst = some (.slice e)) (he : P.underlying e = some (.int .u8)) (hx : a.eval x = .string s) (h0 : 0 < s.size) (hm : s.size ≤ 64)
    (hK : ∀ ad cap w', Reps cB 1 w' ad cap s.data.toList → Below w.heap.size w w' → wpList P ops Q rest (a.put d (.slice ad s.data.toList.length cap)) w') :
    wpList P ops Q (⟨d, .convert src dst x, ty, p, af, none⟩ :: rest) a w := by
  refine wpList_plain rfl fun K hK' => ?_
  have hrun := run_bytes_of_string (P := P) w src dst e s hs hd he
  unfold Oper.wp
  simp only [execOp, hx]
  simp [hrun, Result.andThen]
  refine hK' _ _ ?_
  obtain ⟨c, hc⟩ : ∃ c, c = grownCap w s.size 0 e := ⟨_, rfl⟩
  have hge : s.size ≤ c := by rw [hc]; exact grownCap_ge _ _ _ _
  have hmx : c ≤ maxLen := by rw [hc]; exact grownCap_le_maxLen _ _ _ _ (by unfold maxLen; omega)
  rw [← hc]
  have hlen : s.data.toList.length = s.size := by simp
  have hR : Reps cB 1 (w.drew.alloc (.cells (bytesRow s c) e ((bytesRow s c).size, (bytesRow s c).size + 1))) (some ⟨w.heap.size, 0, none⟩) c s.data.toList := by
    refine ⟨cBS, by rw [hlen]; exact hge, hmx, fun h => (by cases h), fun j u hj => ⟨w.heap.size, 0, rfl, ?_⟩⟩
    have e1 : ∀ l : List UInt8, (l.flatMap fun x => (cB x).cells.toList) = l.map cB := by
      intro l
      induction l with
      | nil => rfl
      | cons x r ih => rw [List.flatMap_cons, ih]; rfl
    rw [e1, List.getElem?_map] at hj
    have hcell := World.cell?_alloc_mark w.drew (bytesRow s c) e ((bytesRow s c).size, (bytesRow s c).size + 1) j
    rw [Nat.zero_add]
    refine hcell.trans ?_
    obtain ⟨x, hx1, hx2⟩ := Option.map_eq_some_iff.1 hj
    have hjl := (List.getElem?_eq_some_iff.1 hx1).1
    unfold bytesRow
    rw [Array.getElem?_append_left (by simpa using hjl), Array.getElem?_map]
    rw [Array.getElem?_toList] at hx1
    rw [hx1, ← hx2]
    rfl
  have hB : Below w.heap.size w (w.drew.alloc (.cells (bytesRow s c) e ((bytesRow s c).size, (bytesRow s c).size + 1))) := bal (Below.refl _ _).drew _
  have := hK _ c _ hR hB
  rw [hlen] at this
  exact this
theorem wpList_unbytes {b o cap : Nat} {l : List UInt8} (hs : P.underlying src = some (.slice e)) (he : P.underlying e = some (.int .u8)) (hd : P.underlying dst = some .string) (hx : a.eval x = .slice (some ⟨b, o, none⟩) l.length cap) (hR : Reps cB 1 w (some ⟨b, o, none⟩) cap l)
    (hK : wpList P ops Q rest (a.put d (.string ⟨l.toArray⟩)) w) : wpList P ops Q (⟨d, .convert src dst x, ty, p, af, none⟩ :: rest) a w := by
  refine wpList_plain rfl fun K hK' => ?_
  have hrun := run_convert_bytes_back (P := P) w src dst e ⟨b, o, none⟩ cap l hs he hd (fun j hj => by
    obtain ⟨b', o', e1, hcs⟩ := hR.cells (by decide) 0 j hj
    cases e1
    have := hcs 0 (cB l[j]) (by simp [cB, hj]; rfl)
    rw [Addr.add_z]
    simpa [cB] using this)
  unfold Oper.wp
  simp only [execOp, hx]
  simp [hrun, Result.andThen]
  exact hK' _ _ hK
end
end Go.Proofs.YtogbclcnmogaeaaGreatDoor

/- Contracts: Back, and the reference's Back. Conditions: passes readable and accepted, sizes as stated. -/
namespace Go.Proofs.YtogbclcnmogaeaaGreatDoor
open Go.RowKit
set_option maxHeartbeats 2000000
set_option maxRecDepth 100000

def revS (s : ByteArray) : ByteArray := ⟨s.data.toList.reverse.toArray⟩
def backP (p : PassV) : PassV := ⟨p.t, p.f, revS p.way⟩
def backL (l : List PassV) : List PassV := l.reverse.map backP
theorem backL_len (l : List PassV) : (backL l).length = l.length := by simp [backL]
theorem backL_at {l : List PassV} {k : Nat} (h : k < l.length) {j : Int} (hj : j = (l.length : Int) - 1 - k) : atD pass0 (backL l) k = backP (atD pass0 l j) := by
  have h1 : j.toNat = l.length - 1 - k := by omega
  have h2 : l.length - 1 - k < l.length := by omega
  unfold atD backL
  rw [h1, List.getD_eq_getElem?_getD, List.getElem?_map, Int.toNat_natCast, List.getElem?_reverse h, List.getD_eq_getElem?_getD, List.getElem?_eq_getElem h2]
  rfl
theorem backC_any (f t : Int) (s : ByteArray) (w : World) (h0 : 0 < s.size) (h1 : s.size ≤ 64) :
    Calls Tryz.prog 139 #[.agg #[.int .i64 f, .int .i64 t, .string s]] w fun r w' => r = .returned (.agg #[.int .i64 t, .int .i64 f, .string (revS s)]) ∧ Below w.heap.size w w' := by
  have hlen : s.data.toList.length = s.size := by simp
  have HL := hid hlen; clear hlen
  go_enter Tryz.func139, Tryz.ntmps139
  go_wp2_with ((with_reducible refine wpList_bytes s Tryz.underlying9 Tryz.underlying179 Tryz.underlying5 (by with_unfolding_all rfl) h0 h1 ?_); intro ad cap w1 hR hb1)
  have hS := (((SL.nil w).box (.cells #[.int .i64 f, .int .i64 t, .string s] 116)).box (.cells #[.int .i64 0, .int .i64 0, .string ⟨#[]⟩] 116)).mono hb1
  simp only [World.size_alloc] at hS
  have hc := revBytes_any ad cap s.data.toList w1 hR (by rw [HL.out]; omega)
  rw [HL.out] at hc
  refine hc.mono ?_
  rintro e w2 ⟨v2, rfl, ho2, hb2⟩
  clear hc
  obtain ⟨L, hLe⟩ : ∃ L, L = s.data.toList.reverse := ⟨_, rfl⟩
  rw [← hLe] at ho2
  have hLl : L.length = s.size := by rw [hLe, List.length_reverse, HL.out]
  have HLE := hid hLe; clear hLe
  obtain ⟨a2, cap2, rfl, hr2, hf2, _⟩ := ho2.reps
  obtain ⟨b2, o2, rfl, _⟩ := hr2.cells (by decide) 0 0 (by omega)
  have hS2 := hS.mono hb2
  have k0 := hS2.cell 1 rfl 0 rfl
  have k1 := hS2.cell 1 rfl 1 rfl
  have HLL := hid hLl; clear hLl
  go_wp2_with (first | (with_reducible refine wpList_unbytes Tryz.underlying179 Tryz.underlying5 Tryz.underlying9 (by with_unfolding_all rfl) hr2 ?_) | ((with_reducible refine wpList_stoR (us := #[.int .i64 t, .int .i64 f, .string ⟨L.toArray⟩]) 0 (by with_unfolding_all rfl) (by with_unfolding_all rfl) (hS2) (by with_unfolding_all rfl) (by kernel_rfl) (by with_unfolding_all rfl) (by with_unfolding_all rfl) ?_); intro w3 hS3))
  have e : revS s = ⟨L.toArray⟩ := by rw [revS, HLE.out]
  rw [e]
  exact bodyPost_ret (results_cell rfl rfl F_pass (by kernel_rfl) (hS3.blk 0 rfl).1) rfl ⟨rfl, hS3.b⟩

theorem revPasses_any (a : Option Addr) (cap : Nat) (l : List PassV) (w : World) (hS : PassesR w a cap l) (hl : l.length ≤ 1048576) (hw : ∀ p ∈ l, 0 < p.way.size ∧ p.way.size ≤ 64) :
    Calls Tryz.prog 138 #[.slice a l.length cap, .func (.func 139) #[] #[]] w fun r w' => ∃ v, r = .returned v ∧ Own cPass 3 w.heap.size 116 w' v (backL l) ∧ Below w.heap.size w w' := by
  have hcap := hS.le
  have hm := hS.max
  have HW := hid hw; clear hw
  go_enter Tryz.func138, Tryz.ntmps138
  go_wp2_with fail
  go_loopw [5, 6, 9] (fun v _ i wr => ∃ k : Nat, k ≤ l.length ∧ i = .int .i64 k ∧ Own cPass 3 w.heap.size 116 wr v ((backL l).take k) ∧ Below w.heap.size w wr) (fun _ _ i _ => l.length - (intOf i).toNat)
  case atStart => exact ⟨0, by omega, rfl, own_nil cPassS, Below.refl _ _⟩
  case round =>
    obtain ⟨k, hk, rfl, hO, hbr⟩ := hrel
    have hSr := hS.below hbr
    have hbs := hbr.size
    have hle : ((backL l).take k).length ≤ 1048576 := by simp; omega
    by_cases hlt : k < l.length
    · have hs := take_step pass0 (backL l) k (by rw [backL_len]; exact hlt)
      rw [backL_at hlt rfl] at hs
      obtain ⟨o, ho⟩ : ∃ o, o = (backL l).take k := ⟨_, rfl⟩
      rw [← ho] at hs hO hle
      have HS := hid hs; clear hs ho
      obtain ⟨q1, q2⟩ := HW.out (atD pass0 l ((l.length : Int) - 1 - k)) (by
        have h1 : ((l.length : Int) - 1 - k).toNat = l.length - 1 - k := by omega
        have h2 : l.length - 1 - k < l.length := by omega
        unfold atD
        rw [h1, List.getD_eq_getElem?_getD, List.getElem?_eq_getElem h2]
        exact List.getElem_mem _)
      obtain ⟨f, hf⟩ : ∃ f, f = (atD pass0 l ((l.length : Int) - 1 - k)).f := ⟨_, rfl⟩
      obtain ⟨t, ht⟩ : ∃ t, t = (atD pass0 l ((l.length : Int) - 1 - k)).t := ⟨_, rfl⟩
      obtain ⟨s, hs⟩ : ∃ s, s = (atD pass0 l ((l.length : Int) - 1 - k)).way := ⟨_, rfl⟩
      rw [← hs] at q1 q2
      have HF := hid hf; have HT := hid ht; have HY := hid hs; clear hf ht hs
      go_wp2_with (first | (with_reducible refine wpList_idxS _ pass0 E_passes F_pass cPass1 (by with_unfolding_all rfl) (by with_unfolding_all rfl) (hSr) (by first | omega | (simp; done)) (by first | omega | (simp; done)) (fun _ => by with_unfolding_all rfl) (fun _ => ?_)))
      rw [← HF.out, ← HT.out, ← HY.out]
      refine (backC_any f t s wr q1 q2).mono ?_
      rintro e w2 ⟨rfl, hb2⟩
      have hO2 := hO.below hb2
      have b2 := bnext hbr hb2
      have hbs2 := b2.size
      obtain ⟨u, hu⟩ : ∃ u, u = revS s := ⟨_, rfl⟩
      rw [← hu]
      have HU := hid hu; clear hu
      go_wp2_with (first | ((with_reducible refine wpList_app (l := o) (ys := [(⟨t, f, u⟩ : PassV)]) E_passes (by with_unfolding_all rfl) (by with_unfolding_all rfl) ((hO2).alloc _) (reps_new1 cPassS ((⟨t, f, u⟩ : PassV)) _ _ (by simp) rfl) cPassO (by simp; omega) (by first | omega | (simp; omega)) (by simp; omega) ?_); intro v3 w3 ho3 hg3 hat3))
      have e : (backL l).take (k + 1) = o ++ [⟨t, f, u⟩] := by rw [HS.out, HU.out, HF.out, HT.out, HY.out]; rfl
      exact ⟨⟨k + 1, by omega, by go_num, by rw [e]; exact ho3, below_own (bal b2 (.cells #[.int .i64 t, .int .i64 f, .string u] 116)) hg3 (hO2.alloc _) (Nat.le_refl _)⟩, by simp [intOf]; omega⟩
    · have : k = l.length := by omega
      subst this
      rw [List.take_of_length_le (by rw [backL_len]; exact Nat.le_refl _)] at hO
      clear hle
      go_wp2_with fail
      go_ret
      exact ⟨_, rfl, hO, hbr⟩

theorem passE_way {n : Int} {p : PassV} (hn : n ≤ 12) (h : passE n p = 0) : 0 < p.way.size ∧ p.way.size ≤ 64 := by
  obtain ⟨h1, h2, h3, h4, h5, h6, _⟩ := passE_zero h
  have := (passE_small hn h).2.2.1
  unfold distP at h6
  split at h6 <;> omega
theorem Back_any (n : Int) (a : Option Addr) (cap : Nat) (l : List PassV) (w : World) (hS : PassesR w a cap l) (hl : l.length ≤ 1048576) (hw : ∀ p ∈ l, p.way.size ≤ 1048576) :
    Calls Tryz.prog 81 #[.int .i64 n, .slice a l.length cap] w fun r w' => RetPsE w (if passesE n l = 0 then backL l else []) (passesE n l) r w' := by
  have hcap := hS.le
  have hm := hS.max
  have hc := CheckPasses_any n a cap l w hS hl hw
  by_cases h : passesE n l = 0
  · obtain ⟨hn1, hn2, hl2, hall⟩ := passesE_zero h
    have CR := fun w (hS : PassesR w a cap l) => revPasses_any a cap l w hS hl (fun p hp => passE_way hn2 (hall p hp))
    rw [if_pos h, h]
    rw [h] at hc
    have HC := hid hc; have HR := hid CR; clear hc h hall CR hw
    go_enter Tryz.func81, Tryz.ntmps81
    go_wp2_with fail
    refine HC.out.mono ?_
    rintro e w1 ⟨rfl, hb1⟩
    go_wp2_with fail
    refine (HR.out w1 (hS.below hb1)).mono ?_
    rintro e w2 ⟨v2, rfl, ho2, hb2⟩
    go_wp2_with fail
    go_ret2
    exact RetPsE.own v2 rfl ho2 hb1.size (bnext hb1 hb2)
  · rw [if_neg h]
    obtain ⟨q, hq⟩ : ∃ q, q = passesE n l := ⟨_, rfl⟩
    rw [← hq] at hc h ⊢
    have hne : (q != 0) = true := by simpa using h
    have HC := hid hc; clear hc hq hw
    go_enter Tryz.func81, Tryz.ntmps81
    go_wp2_with fail
    refine HC.out.mono ?_
    rintro e w1 ⟨rfl, hb1⟩
    go_wp2_with fail
    go_ret2
    exact RetPsE.none rfl hb1
end Go.Proofs.YtogbclcnmogaeaaGreatDoor

/- Contract of the reference: Back. Conditions: passes readable, ways of 1 to 64 signs. -/
namespace Go.Proofs.YtogbclcnmogaeaaGreatDoor
open Go.RowKit
set_option maxHeartbeats 2000000
set_option maxRecDepth 100000

def revK (s : ByteArray) (c : Nat) : ByteArray := ⟨(s.data.toList.take c).reverse.toArray⟩
theorem revK_size (s : ByteArray) (c : Nat) (h : c ≤ s.size) : (revK s c).size = c := by
  have : c ≤ s.data.size := h
  show (s.data.toList.take c).reverse.toArray.size = c
  simp; omega
theorem revK_all (s : ByteArray) : revK s s.size = revS s := by
  unfold revK revS
  rw [List.take_of_length_le (by simp)]
theorem revK_succ (s : ByteArray) (c : Nat) (h : c < s.size) : revK s (c + 1) = s.extract c (c + 1) ++ revK s c := by
  have h2 : c < s.data.toList.length := by simpa using h
  have e : s.extract c (c + 1) = ⟨#[s.data.toList[c]]⟩ := by
    apply ByteArray.ext
    rw [ByteArray.data_extract]
    apply Array.ext'
    simp only [Array.toList_extract, List.extract_eq_take_drop]
    rw [show c + 1 - c = 1 by omega, List.drop_eq_getElem_cons h2]
    simp
  rw [e]
  unfold revK
  rw [ByteArray.mk_append_mk, List.take_succ_eq_append_getElem h2]
  simp

theorem rBack_any (a : Option Addr) (cap : Nat) (l : List PassV) (w : World) (hS : PassesR w a cap l) (hl : l.length ≤ 1048576) (hw : ∀ p ∈ l, 0 < p.way.size ∧ p.way.size ≤ 64) :
    Calls Tryz.prog 83 #[.slice a l.length cap] w fun r w' => ∃ v, r = .returned v ∧ Own cPass 3 w.heap.size 99 w' v (backL l) ∧ Below w.heap.size w w' := by
  have hcap := hS.le
  have hm := hS.max
  have HW := hid hw; clear hw
  go_enter Tryz.func83, Tryz.ntmps83
  go_wp2_with fail
  go_loopw [3, 4, 5, 6] (fun v i _ _ wr => ∃ k : Nat, k ≤ l.length ∧ i = .int .i64 ((l.length : Int) - 1 - k) ∧ Own cPass 3 w.heap.size 99 wr v ((backL l).take k) ∧ Below w.heap.size w wr) (fun _ i _ _ _ => (intOf i + 1).toNat)
  case atStart => exact ⟨0, by omega, by simp, own_nil cPassS, Below.refl _ _⟩
  case round =>
    obtain ⟨k, hk, rfl, hO, hbr⟩ := hrel
    have hbs := hbr.size
    have hle : ((backL l).take k).length ≤ 1048576 := by simp; omega
    by_cases hlt : k < l.length
    · have hs := take_step pass0 (backL l) k (by rw [backL_len]; exact hlt)
      rw [backL_at hlt rfl] at hs
      obtain ⟨o, ho⟩ : ∃ o, o = (backL l).take k := ⟨_, rfl⟩
      rw [← ho] at hs hO hle
      have HS := hid hs; clear hs ho
      obtain ⟨j, hj⟩ : ∃ j, j = l.length - 1 - k := ⟨_, rfl⟩
      have hji : (l.length : Int) - 1 - k = j := by omega
      have hjl : j < l.length := by omega
      rw [hji] at HS ⊢
      obtain ⟨z1, z2⟩ := HW.out (atD pass0 l j) (by simp [atD, hjl])
      obtain ⟨b', o', rfl, hcs⟩ := hS.cells (by decide) pass0 j hjl
      have k0 := hcs 0 (.int .i64 (atD pass0 l j).f) rfl
      have k1 := hcs 1 (.int .i64 (atD pass0 l j).t) rfl
      have k2 := hcs 2 (.string (atD pass0 l j).way) rfl
      obtain ⟨f, hf⟩ : ∃ f, f = (atD pass0 l j).f := ⟨_, rfl⟩
      obtain ⟨t, ht⟩ : ∃ t, t = (atD pass0 l j).t := ⟨_, rfl⟩
      obtain ⟨s, hs⟩ : ∃ s, s = (atD pass0 l j).way := ⟨_, rfl⟩
      rw [← hf] at k0
      rw [← ht] at k1
      rw [← hs] at k2 z1 z2
      simp at k0 k1 k2
      have q2 := (hbr.cell (World.block_lt_of_cell? w _ k2)).trans k2
      have HF := hid hf; have HT := hid ht; have HY := hid hs; have HJ := hid hji
      clear hf ht hs hcs hj hji
      go_wp2_with fail
      go_loopw [5, 6] (fun u m wq => ∃ c : Nat, c ≤ s.size ∧ m = .int .i64 c ∧ u = .string (revK s c) ∧ wr = wq) (fun _ m _ => s.size - (intOf m).toNat)
      case atStart => exact ⟨0, by omega, rfl, rfl, by trivial⟩
      case round =>
        obtain ⟨c, hc, rfl, rfl, rfl⟩ := hrel
        have hsz : (revK s c).size ≤ 64 := by rw [revK_size s c hc]; omega
        by_cases hcl : c < s.size
        · have hsu := revK_succ s c hcl
          have HSU := hid hsu; clear hsu
          go_wp2_with fail
          exact ⟨⟨c + 1, by omega, by go_num, by rw [HSU.out], by trivial⟩, by simp [intOf]; omega⟩
        · have : c = s.size := by omega
          subst this
          obtain ⟨u, hu⟩ : ∃ u, u = revK s s.size := ⟨_, rfl⟩
          rw [← hu]
          have HU := hid hu; clear hu hsz
          go_wp2_with fail
          refine wp_regionK (C := Below (w).heap.size (w)) [0, 1, 2, 3, 4, 5, 6, 7, 8, 9, 10, 11, 12] [_, _, _, _, _, _, _, _, _, _, _, _, _] 3 (by simp only [List.map_cons, List.map_nil, List.getElem?_toArray]; rfl) rfl (by kernel_rfl) (by kernel_rfl) (by kernel_rfl) (hbr.drew) ?_
          refine ⟨_, yieldsK_val (by with_unfolding_all rfl) (fun w' => by with_unfolding_all exact rfl), ?_⟩
          go_frame
          refine ⟨_, yieldsK_val (by with_unfolding_all rfl) (fun w' => by with_unfolding_all exact rfl), ?_⟩
          go_frame
          refine ⟨_, yieldsK_val (by with_unfolding_all rfl) (fun w' => by with_unfolding_all exact rfl), ?_⟩
          go_frame
          refine ⟨_, yieldsK_idx (k := (j : Int)) E_rpasses (by omega) (by first | omega | (simp; omega)) (by with_unfolding_all rfl) (by with_unfolding_all rfl) (by with_unfolding_all rfl), ?_⟩
          go_frame
          refine ⟨_, yieldsK_val (by with_unfolding_all rfl) (fun w' => by with_unfolding_all exact rfl), ?_⟩
          go_frame
          refine ⟨_, yieldsK_cell F_int (k1) (by with_unfolding_all rfl) (by with_unfolding_all rfl), ?_⟩
          go_frame
          refine ⟨_, yieldsK_val (by with_unfolding_all rfl) (fun w' => by with_unfolding_all exact rfl), ?_⟩
          go_frame
          refine ⟨_, yieldsK_val (by with_unfolding_all rfl) (fun w' => by with_unfolding_all exact rfl), ?_⟩
          go_frame
          refine ⟨_, yieldsK_idx (k := (j : Int)) E_rpasses (by omega) (by first | omega | (simp; omega)) (by with_unfolding_all rfl) (by with_unfolding_all rfl) (by with_unfolding_all rfl), ?_⟩
          go_frame
          refine ⟨_, yieldsK_val (by with_unfolding_all rfl) (fun w' => by with_unfolding_all exact rfl), ?_⟩
          go_frame
          refine ⟨_, yieldsK_cell F_int (k0) (by with_unfolding_all rfl) (by with_unfolding_all rfl), ?_⟩
          go_frame
          refine ⟨_, yieldsK_val (by with_unfolding_all rfl) (fun w' => by with_unfolding_all exact rfl), ?_⟩
          go_frame
          refine ⟨.agg #[.int .i64 t, .int .i64 f, .string u], yieldsK_val (by with_unfolding_all rfl) (fun w' => by first | (go_simp; done) | (go_simp; rfl)), ?_⟩
          go_frame
          unfold wpPureK
          have hVd : ({ wr with drawn := wr.drawn + 1 } : World) = wr.drew := rfl
          rw [hVd]
          have hO2 := hO.drew
          have b2 := hbr.drew
          refine wpAnyC_on [13] (by kernel_rfl) (by simp) ?_
          simp only [List.forall_mem_cons, List.not_mem_nil, false_implies, implies_true, and_true]
          refine wpOp_value (v := .slice (some ⟨wr.drew.heap.size, 0, none⟩) 1 1) (w' := wr.drew.alloc (.cells #[.int .i64 t, .int .i64 f, .string u] 99)) (by rw [List.getElem?_toArray]; rfl) (by with_unfolding_all rfl) (by first | (go_simp; done) | (go_simp; rfl) | (simp [execOp, Act.eval, Result.andThen]; done)) ?_
          refine ⟨bal b2 _, ?_⟩
          go_frame
          refine wpAnyC_on [14] (by kernel_rfl) (by simp) ?_
          simp only [List.forall_mem_cons, List.not_mem_nil, false_implies, implies_true, and_true]
          refine wpOp_of_list (by rw [List.getElem?_toArray]; rfl) ?_
          ((with_reducible refine wpList_app (l := o) (ys := [(⟨t, f, u⟩ : PassV)]) E_rpasses (by with_unfolding_all rfl) (by with_unfolding_all rfl) ((hO2).alloc _) (reps_new1 cPassS ((⟨t, f, u⟩ : PassV)) _ _ (by simp) rfl) cPassO (by simp; omega) (by first | omega | (simp; omega)) (by simp; omega) ?_); intro v3 w3 ho3 hg3 hat3)
          have b3 := below_own (bal b2 (.cells #[.int .i64 t, .int .i64 f, .string u] 99)) hg3 (hO2.alloc _) (Nat.le_refl _)
          refine ⟨b3, ?_⟩
          go_frame
          refine wpAnyC_rest [15] [_] rfl (by simp only [List.map_cons, List.map_nil, List.getElem?_toArray]; rfl) (by kernel_rfl) (by kernel_rfl) (by kernel_rfl) (b3) ?_
          repeat (refine ⟨_, .inl ⟨by with_unfolding_all rfl, fun w' _ => by with_unfolding_all exact rfl⟩, ?_⟩; go_frame)
          unfold wpPure
          refine of_wpList_nil (P := Tryz.prog) (ops := #[]) ?_
          go_wp2_with fail
          have e : (backL l).take (k + 1) = o ++ [⟨t, f, u⟩] := by rw [HS.out, HU.out, revK_all, HF.out, HT.out, HY.out]; rfl
          have hji := HJ.out
          refine ⟨⟨k + 1, by omega, ?_, by rw [e]; exact ho3, b3⟩, by simp [intOf]⟩
          congr 1
          omega
    · have : k = l.length := by omega
      subst this
      rw [List.take_of_length_le (by rw [backL_len]; exact Nat.le_refl _)] at hO
      clear hle
      go_wp2_with fail
      go_ret
      exact ⟨_, rfl, hO, hbr⟩
end Go.Proofs.YtogbclcnmogaeaaGreatDoor
