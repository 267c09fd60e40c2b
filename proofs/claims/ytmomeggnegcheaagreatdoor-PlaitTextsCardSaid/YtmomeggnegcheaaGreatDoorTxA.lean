/- Contract: text of a move. Conditions: Itoa's contract at the numbers. Contract: PrintMoves. Conditions: Itoa's contract at the numbers that are printed. -/
import Derived.Test.YtmomeggnegcheaaGreatDoorLib1
import Derived.Test.YtmomeggnegcheaaGreatDoorSnA
import Derived.Test.YtmomeggnegcheaaGreatDoorPlA
import Derived.Deep.RegionHeld3
import Derived.Lib.ItoaLen
import Derived.Lib.ItoaMem
set_option linter.all false
/- Contract: text of a move. Conditions: Itoa's contract at the numbers. -/
namespace Go.Proofs.YtmomeggnegcheaaGreatDoor
open Go.RowKit
set_option maxHeartbeats 1000000
set_option maxRecDepth 100000

def itoaB (n : Int) : ByteArray := ⟨(Lib.itoa n).toArray⟩
/-- from a world on, Itoa answers at n. -/
def ItoaOk (w : World) (n : Int) : Prop := ∀ w', Below w.heap.size w w' → Calls Tryz.prog 128 #[.int .i64 n] w' fun e w'' => e = .returned (.string (itoaB n)) ∧ Below w'.heap.size w' w''
theorem ItoaOk.below {w w' : World} {n : Int} (h : ItoaOk w n) (hb : Below w.heap.size w w') : ItoaOk w' n := fun W hW => h W (bnext hb hW)
theorem itoaOk_small (w : World) (n : Int) (h0 : 0 ≤ n) (h1 : n < 100) : ItoaOk w n := by
  intro w' _
  obtain ⟨m, rfl⟩ : ∃ m : Nat, n = m := ⟨n.toNat, by omega⟩
  refine (Tryz.strconv_Itoa_small m (by omega) w').mono ?_
  rintro e w'' ⟨rfl, rfl⟩
  exact ⟨rfl, Below.refl _ _⟩

theorem itoaB_size (n : Int) (h0 : 0 ≤ n) (h1 : n ≤ 999999999) : (itoaB n).size ≤ 20 := by
  obtain ⟨m, rfl⟩ : ∃ m : Nat, n = m := ⟨n.toNat, by omega⟩
  show (Lib.itoa (m : Int)).toArray.size ≤ 20
  rw [Lib.itoa_nonneg]
  have := Lib.nDigits_le20 m (by omega)
  simp [Lib.decDigits_length, this]

def textM (m : Int × Int) : ByteArray := itoaB m.1 ++ ⟨#[45]⟩ ++ itoaB m.2
theorem mheld_below {H H0 : Nat} {f t : Int} {w0 W W' : World} (h : W.cell? ⟨H, 0, none⟩ = some (.int .i64 f) ∧ W.cell? ⟨H, 1, none⟩ = some (.int .i64 t) ∧ Below H0 w0 W ∧ H < W.heap.size ∧ H0 ≤ W.heap.size) (hb : Below W.heap.size W W') :
    W'.cell? ⟨H, 0, none⟩ = some (.int .i64 f) ∧ W'.cell? ⟨H, 1, none⟩ = some (.int .i64 t) ∧ Below H0 w0 W' ∧ H < W'.heap.size ∧ H0 ≤ W'.heap.size := by
  obtain ⟨h1, h2, h3, h4, h5⟩ := h
  have hz := hb.size
  exact ⟨(hb.cell (by show H < _; omega)).trans h1, (hb.cell (by show H < _; omega)).trans h2, h3.trans (hb.mono h5), by omega, by omega⟩
theorem mheld_drew {H H0 : Nat} {f t : Int} {w0 W : World} (h : W.cell? ⟨H, 0, none⟩ = some (.int .i64 f) ∧ W.cell? ⟨H, 1, none⟩ = some (.int .i64 t) ∧ Below H0 w0 W ∧ H < W.heap.size ∧ H0 ≤ W.heap.size) :
    W.drew.cell? ⟨H, 0, none⟩ = some (.int .i64 f) ∧ W.drew.cell? ⟨H, 1, none⟩ = some (.int .i64 t) ∧ Below H0 w0 W.drew ∧ H < W.drew.heap.size ∧ H0 ≤ W.drew.heap.size :=
  mheld_below h (Below.refl _ _).drew
theorem mheld_start (w : World) (f t : Int) {o : Obj} (ho : o = .cells #[.int .i64 f, .int .i64 t] 55) :
    (w.alloc o).cell? ⟨w.heap.size, 0, none⟩ = some (.int .i64 f) ∧ (w.alloc o).cell? ⟨w.heap.size, 1, none⟩ = some (.int .i64 t) ∧ Below w.heap.size w (w.alloc o) ∧ w.heap.size < (w.alloc o).heap.size ∧ w.heap.size ≤ (w.alloc o).heap.size := by
  subst ho
  refine ⟨by simp [go_sem], by simp [go_sem], bal (Below.refl _ _) _, by simp, by simp⟩

theorem text_any (f t : Int) (w : World) (h1 : ItoaOk w f) (h2 : ItoaOk w t) (hs1 : (itoaB f).size ≤ 20) (hs2 : (itoaB t).size ≤ 20) :
    Calls Tryz.prog 81 #[.agg #[.int .i64 f, .int .i64 t]] w fun r w' => r = .returned (.string (textM (f, t))) ∧ Below w.heap.size w w' := by
  obtain ⟨x, hx⟩ : ∃ x, x = itoaB f := ⟨_, rfl⟩
  obtain ⟨y, hy⟩ : ∃ x, x = itoaB t := ⟨_, rfl⟩
  have e : textM (f, t) = x ++ ⟨#[45]⟩ ++ y := by rw [hx, hy]; rfl
  rw [e]
  unfold ItoaOk at h1 h2
  rw [← hx] at h1 hs1; rw [← hy] at h2 hs2
  have s1 : ¬ 9223372036854775807 < x.size + 1 := by omega
  have s2 : ¬ 9223372036854775807 < x.size + 1 + y.size := by omega
  have H1 := hid h1; have H2 := hid h2
  clear h1 h2 hx hy e
  go_enter Tryz.func81, Tryz.ntmps81
  go_wp2_with fail
  have hst := mheld_start w f t rfl
  go_region_held3 (fun W => W.cell? ⟨w.heap.size, 0, none⟩ = some (.int .i64 f) ∧ W.cell? ⟨w.heap.size, 1, none⟩ = some (.int .i64 t) ∧ Below w.heap.size w W ∧ w.heap.size < W.heap.size ∧ w.heap.size ≤ W.heap.size)
    (first | assumption | exact mheld_drew ‹_› | exact mheld_below ‹_› ‹_›)
    (first | (go_at_call 128; refine (H1.out _ (by first | assumption | (have := ‹_ ∧ _ ∧ Below _ _ _ ∧ _ ∧ _›; exact this.2.2.1))).mono ?_; rintro e w5 ⟨rfl, hb5⟩) | (go_at_call 128; refine (H2.out _ (by first | assumption | (have := ‹_ ∧ _ ∧ Below _ _ _ ∧ _ ∧ _›; exact this.2.2.1))).mono ?_; rintro e w6 ⟨rfl, hb6⟩))
  have hb9 : Below w.heap.size w w6 := by
    have := ‹w6.cell? _ = some _ ∧ _›
    exact this.2.2.1
  go_wp2_with fail
  go_ret
  exact ⟨rfl, hb9⟩

def textsJ (l : List (Int × Int)) : ByteArray := ⟨(Lib.join ((l.map textM).map (·.data.toList)) [32]).toArray⟩
def badM (m : Int × Int) : Prop := m.1 < 0 ∨ m.2 < 0 ∨ 999999999 < m.1 ∨ 999999999 < m.2
instance (m : Int × Int) : Decidable (badM m) := inferInstanceAs (Decidable (_ ∨ _ ∨ _ ∨ _))
def printE (l : List (Int × Int)) : Int := if manyE l.length ≠ 0 then manyE l.length else if ∃ m ∈ l, badM m then 3 else if 4096 < (textsJ l).size then 26 else 0
def printB (l : List (Int × Int)) : ByteArray := if printE l = 0 then textsJ l else ⟨#[]⟩
end Go.Proofs.YtmomeggnegcheaaGreatDoor

/- Contract: PrintMoves. Conditions: Itoa's contract at the numbers that are printed. -/
namespace Go.Proofs.YtmomeggnegcheaaGreatDoor
open Go.RowKit
set_option maxHeartbeats 1000000
set_option maxRecDepth 100000

theorem join_any (a : Option Addr) (cap : Nat) (l : List ByteArray) (w : World) (hS : Strs w a cap l) (hl : l.length ≤ 1048576) (hz : (Lib.join (l.map (·.data.toList)) [32]).length ≤ 140737488355328) :
    Calls Tryz.prog 82 #[.slice a l.length cap, .string ⟨#[32]⟩] w fun r w' => r = .returned (.string ⟨(Lib.join (l.map (·.data.toList)) [32]).toArray⟩) ∧ Below w.heap.size w w' := by
  by_cases h0 : l = []
  · subst h0
    refine (Tryz.strings_Join_none a cap ⟨#[32]⟩ w).mono ?_
    rintro e w' ⟨rfl, rfl⟩
    exact ⟨rfl, Below.refl _ _⟩
  · have hpos : 0 < l.length := by cases l; exact absurd rfl h0; simp
    obtain ⟨b, o, rfl, hc⟩ := hS.cells (by decide) ByteArray.empty 0 hpos
    refine Tryz.strings_Join b o cap l ⟨#[32]⟩ w (fun j x hx => ?_) ?_ (by omega) hS.le (by simpa using hz)
    · have hj := (List.getElem?_eq_some_iff.1 hx).1
      obtain ⟨b', o', e', hc'⟩ := hS.cells (by decide) ByteArray.empty j hj
      cases e'
      have := hc' 0 (.string x) (by rw [List.getD_eq_getElem?_getD, hx]; rfl)
      simpa using this
    · have := hc 0 _ rfl
      exact World.block_lt_of_cell? w _ this

theorem find_step (l : List (Int × Int)) (k : Nat) (h : k < l.length) : (∃ m ∈ l.drop k, badM m) ↔ badM (atD (0, 0) l k) ∨ ∃ m ∈ l.drop (k + 1), badM m := by
  have e2 : atD (0, 0) l k = l[k] := by simp [atD, h]
  rw [List.drop_eq_getElem_cons h, e2]
  constructor
  · rintro ⟨m, hm, hb⟩
    rcases List.mem_cons.1 hm with rfl | hm
    · exact .inl hb
    · exact .inr ⟨m, hm, hb⟩
  · rintro (hb | ⟨m, hm, hb⟩)
    · exact ⟨_, List.mem_cons_self, hb⟩
    · exact ⟨m, List.mem_cons_of_mem _ hm, hb⟩
theorem texts_step (l : List (Int × Int)) (k : Nat) (h : k < l.length) : (l.take (k + 1)).map textM = (l.take k).map textM ++ [textM (atD (0, 0) l k)] := by
  have e2 : atD (0, 0) l k = l[k] := by simp [atD, h]
  rw [List.take_succ_eq_append_getElem h, e2, List.map_append]; rfl
theorem join_len (ls : List (List UInt8)) (c : Nat) (h : ∀ x ∈ ls, x.length ≤ c) : (Lib.join ls [32]).length ≤ ls.length * (c + 1) := by
  have ht : ∀ r : List (List UInt8), (∀ x ∈ r, x.length ≤ c) → (Lib.joinTail [32] r).length ≤ r.length * (c + 1) := by
    intro r
    induction r with
    | nil => intro _; simp [Lib.joinTail]
    | cons y r ih =>
      intro h
      have h1 := ih (fun x hx => h x (List.mem_cons_of_mem _ hx))
      have h2 := h y List.mem_cons_self
      unfold Lib.joinTail at h1 ⊢
      rw [List.map_cons, List.flatten_cons, List.length_append, List.length_cons, Nat.add_mul]
      simp only [List.length_append, List.length_cons, List.length_nil]
      omega
  match ls, h with
  | [], _ => simp [Lib.join_nil]
  | x :: r, h =>
    rw [Lib.join_cons, List.length_append, List.length_cons, Nat.add_mul]
    have h1 := ht r (fun x hx => h x (List.mem_cons_of_mem _ hx))
    have h2 := h x List.mem_cons_self
    omega
theorem textM_size (m : Int × Int) (h : ¬ badM m) : (textM m).size ≤ 41 := by
  unfold badM at h
  have h1 := itoaB_size m.1 (by omega) (by omega)
  have h2 := itoaB_size m.2 (by omega) (by omega)
  unfold textM
  rw [ByteArray.size_append, ByteArray.size_append]
  show (itoaB m.1).size + 1 + (itoaB m.2).size ≤ 41
  omega

theorem PrintMoves_any (a : Option Addr) (cap : Nat) (l : List (Int × Int)) (w : World) (hS : Pairs w a cap l) (hl : l.length ≤ 1048576) (hI : ∀ m ∈ l, ¬ badM m → ItoaOk w m.1 ∧ ItoaOk w m.2) :
    Calls Tryz.prog 30 #[.slice a l.length cap] w fun r w' => r = .returned (.tuple #[.string (printB l), .int .i64 (printE l)]) ∧ Below w.heap.size w w' := by
  have hcap := hS.le
  have hm := hS.max
  have hck := fun w => checkMoves_any a cap l.length w hl
  by_cases h : manyE l.length = 0
  · rw [h] at hck
    have hl2 : l.length ≤ 1000 := by unfold manyE at h; split at h <;> omega
    have HCK := hid hck; have HI := hid hI
    have hE : printE l = if ∃ m ∈ l, badM m then 3 else if 4096 < (textsJ l).size then 26 else 0 := by simp [printE, h]
    have HE := hid hE
    clear hck hI hE h
    go_enter Tryz.func30, Tryz.ntmps30
    go_wp2_with (go_at_call 56; refine (HCK.out _).mono ?_; rintro e w' ⟨rfl, rfl⟩)
    go_loopw [5, 7, 16] (fun v _ i wr => ∃ k : Nat, k ≤ l.length ∧ i = .int .i64 k ∧ OwnS w.heap.size wr v ((l.take k).map textM) ∧ ((∃ m ∈ l.drop k, badM m) ↔ ∃ m ∈ l, badM m) ∧ Below w.heap.size w wr) (fun _ _ i _ => l.length - (intOf i).toNat)
    case atStart => exact ⟨0, by omega, rfl, own_nil cStrS, by simp, Below.refl _ _⟩
    case round =>
      obtain ⟨k, hk, rfl, hO, hbad, hbr⟩ := hrel
      have hSr := hS.below hbr
      have hbs := hbr.size
      have HB := hid hbad; clear hbad
      by_cases hlt : k < l.length
      · by_cases hb : badM (atD (0, 0) l k)
        · have e : printE l = 3 := by rw [HE.out, if_pos (HB.out.1 ((find_step l k hlt).2 (.inl hb)))]
          have e2 : printB l = ⟨#[]⟩ := by rw [printB, e]; rfl
          have E := hid e; have E2 := hid e2; clear e e2
          unfold badM at hb
          by_cases c1 : min (atD (0, 0) l k).1 (atD (0, 0) l k).2 < 0
          · clear hb
            go_wp2_with (with_reducible refine wpList_idxS _ (0, 0) E_moves F_move cPair1 (by with_unfolding_all rfl) (by with_unfolding_all rfl) (hSr) (by first | omega | (simp; done)) (by first | omega | (simp; done)) (fun _ => by with_unfolding_all rfl) (fun _ => ?_))
            all_goals go_ret2
            all_goals exact ⟨by rw [E.out, E2.out]; rfl, bal hbr _⟩
          · have c2 : 999999999 < max (atD (0, 0) l k).1 (atD (0, 0) l k).2 := by omega
            clear hb
            go_wp2_with (with_reducible refine wpList_idxS _ (0, 0) E_moves F_move cPair1 (by with_unfolding_all rfl) (by with_unfolding_all rfl) (hSr) (by first | omega | (simp; done)) (by first | omega | (simp; done)) (fun _ => by with_unfolding_all rfl) (fun _ => ?_))
            all_goals go_ret2
            all_goals exact ⟨by rw [E.out, E2.out]; rfl, bal hbr _⟩
        · have hok := HI.out (atD (0, 0) l k) (by simp [atD, hlt]) hb
          have hts := texts_step l k hlt
          have htx := fun W (hW : Below w.heap.size w W) => text_any (atD (0, 0) l k).1 (atD (0, 0) l k).2 W (hok.1.below hW) (hok.2.below hW) (by unfold badM at hb; exact itoaB_size _ (by omega) (by omega)) (by unfold badM at hb; exact itoaB_size _ (by omega) (by omega))
          have hb2 : (∃ m ∈ l.drop (k + 1), badM m) ↔ ∃ m ∈ l, badM m := by rw [← HB.out, find_step l k hlt]; simp [hb]
          have HTS := hid hts; have HTX := hid htx; have HB2 := hid hb2
          have c1 : ¬ min (atD (0, 0) l k).1 (atD (0, 0) l k).2 < 0 := by unfold badM at hb; omega
          have c2 : ¬ 999999999 < max (atD (0, 0) l k).1 (atD (0, 0) l k).2 := by unfold badM at hb; omega
          have hle : ((l.take k).map textM).length ≤ 1000 := by simp; omega
          clear hok hts htx hb2 hb
          go_wp2_with (first | (with_reducible refine wpList_idxS _ (0, 0) E_moves F_move cPair1 (by with_unfolding_all rfl) (by with_unfolding_all rfl) (hSr) (by first | omega | (simp; done)) (by first | omega | (simp; done)) (fun _ => by with_unfolding_all rfl) (fun _ => ?_)) | ((go_at_call 81; refine (HTX.out _ (bal hbr _)).mono ?_; rintro e w1 ⟨rfl, hb1⟩); have hO1 := (hO.alloc (.cells #[.int .i64 (atD (0, 0) l k).1, .int .i64 (atD (0, 0) l k).2] 55)).below hb1; have hbr1 := bnext (bal hbr (.cells #[.int .i64 (atD (0, 0) l k).1, .int .i64 (atD (0, 0) l k).2] 55)) hb1; have hbs1 := hbr1.size) | ((with_reducible refine wpList_app (l := ((l.take k).map textM)) (ys := [(textM ((atD (0, 0) l k).1, (atD (0, 0) l k).2))]) E_strs (by with_unfolding_all rfl) (by with_unfolding_all rfl) ((hO1).alloc _) (reps_new1 cStrS ((textM ((atD (0, 0) l k).1, (atD (0, 0) l k).2))) _ _ (by simp) rfl) cStrO (by simp; omega) (by first | omega | (simp; omega)) (by simp; omega) ?_); intro v3 w3 ho3 hg3 hat3))
          refine ⟨⟨k + 1, by omega, by go_num, by rw [HTS.out]; exact ho3, HB2.out, below_own (bal hbr1 (.cells #[.string (textM ((atD (0, 0) l k).1, (atD (0, 0) l k).2))] 9)) hg3 (hO1.alloc _) (Nat.le_refl _)⟩, by simp [intOf]; omega⟩
      · have : k = l.length := by omega
        subst this
        rw [List.take_length] at hO
        have hno : ¬ ∃ m ∈ l, badM m := by rw [← HB.out]; simp
        have hz : (Lib.join ((l.map textM).map (·.data.toList)) [32]).length ≤ 140737488355328 := by
          have := join_len ((l.map textM).map (·.data.toList)) 41 (fun x hx => by
            obtain ⟨y, hy, rfl⟩ := List.mem_map.1 hx
            obtain ⟨m, hm, rfl⟩ := List.mem_map.1 hy
            have := textM_size m (fun hb => hno ⟨m, hm, hb⟩)
            simpa using this)
          simp only [List.length_map] at this
          omega
        obtain ⟨ao, capo, rfl, hro, _, _⟩ := hO.reps
        have hjn := join_any ao capo (l.map textM) wr hro (by simp; omega) hz
        rw [List.length_map] at hjn
        rw [show (⟨(Lib.join ((l.map textM).map (·.data.toList)) [32]).toArray⟩ : ByteArray) = textsJ l from rfl] at hjn
        have hzz : (textsJ l).size ≤ 140737488355328 := by show (Lib.join ((l.map textM).map (·.data.toList)) [32]).toArray.size ≤ _; simpa using hz
        obtain ⟨J, hJ⟩ : ∃ J, J = textsJ l := ⟨_, rfl⟩
        rw [← hJ] at hjn hzz
        have hE2 : printE l = if 4096 < J.size then 26 else 0 := by rw [HE.out, if_neg hno, hJ]
        have HJN := hid hjn; have HJ := hid hJ
        clear hjn hJ hno hz
        by_cases hlong : 4096 < J.size
        · have e : printE l = 26 := by rw [hE2, if_pos hlong]
          have e2 : printB l = ⟨#[]⟩ := by rw [printB, e]; rfl
          have E := hid e; have E2 := hid e2; clear e e2 hE2
          go_wp2_with fail
          with_reducible refine HJN.out.mono ?_
          rintro e w5 ⟨rfl, hb5⟩
          go_wp2_with fail
          go_ret2
          exact ⟨by rw [E.out, E2.out]; rfl, bnext hbr hb5⟩
        · have e : printE l = 0 := by rw [hE2, if_neg hlong]
          have e2 : printB l = J := by rw [printB, e, HJ.out]; rfl
          have E := hid e; have E2 := hid e2; clear e e2 hE2
          go_wp2_with fail
          with_reducible refine HJN.out.mono ?_
          rintro e w5 ⟨rfl, hb5⟩
          go_wp2_with fail
          go_ret2
          exact ⟨by rw [E.out, E2.out]; rfl, bnext hbr hb5⟩
  · have e : printE l = manyE l.length := by simp [printE, h]
    have e3 : manyE l.length = 5 := by unfold manyE at *; split at h <;> simp_all
    have e2 : printB l = ⟨#[]⟩ := by rw [printB, e, if_neg h]
    rw [e3] at hck
    rw [e, e2, e3]
    have HCK := hid hck; clear hck h e e2 e3 hI
    go_enter Tryz.func30, Tryz.ntmps30
    go_wp2_with (go_at_call 56; refine (HCK.out _).mono ?_; rintro e w' ⟨rfl, rfl⟩)
    go_ret2
    exact ⟨rfl, Below.refl _ _⟩
end Go.Proofs.YtmomeggnegcheaaGreatDoor
