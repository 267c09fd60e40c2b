/- Contract: Passes. Conditions: slices readable, sizes as stated. -/
import Derived.Test.YtmomeggnegcheaaGreatDoorSnA
import Derived.Test.YtmomeggnegcheaaGreatDoorPaB
set_option linter.all false
namespace Go.Proofs.YtmomeggnegcheaaGreatDoor
open Go.RowKit
set_option maxHeartbeats 1000000
set_option maxRecDepth 100000

theorem reps_drop {w : World} {b o cap m : Nat} {r : List Int} (h : Ints w (some ⟨b, o, none⟩) cap r) (hm : m ≤ r.length) : Ints w (if cap = m then some ⟨b, o, none⟩ else some ⟨b, o + m, none⟩) (cap - m) (r.drop m) := by
  have h1 := h.le
  have h2 := h.max
  refine ⟨cIntS, by simp; omega, by unfold maxLen; omega, (fun e => by (split at e <;> cases e)), fun j u hj => ?_⟩
  have e : ∀ L : List Int, (L.flatMap fun x => (cInt x).cells.toList) = L.map cInt := by
    intro L
    induction L with
    | nil => rfl
    | cons x r ih => rw [List.flatMap_cons, ih]; rfl
  rw [e] at hj
  have hj2 := (List.getElem?_eq_some_iff.1 hj).1
  simp at hj2
  rw [if_neg (by omega)]
  refine ⟨b, o + m, rfl, ?_⟩
  obtain ⟨b', o', e', hc⟩ := h.cells (by decide) 0 (m + j) (by omega)
  cases e'
  have := hc 0 u (by
    rw [List.getElem?_map, List.getElem?_drop] at hj
    rw [List.getD_eq_getElem?_getD]
    cases hx : r[m + j]? with
    | none => rw [hx] at hj; cases hj
    | some z => rw [hx] at hj; simp at hj; subst hj; rfl)
  simpa [Nat.add_assoc] using this
theorem reps_take {w : World} {a : Option Addr} {cap m : Nat} {r : List Int} (h : Ints w a cap r) (hm : m ≤ r.length) : Ints w a cap (r.take m) := by
  have h1 := h.le
  refine ⟨cIntS, by simp; omega, h.2.2.1, h.2.2.2.1, fun j u hj => ?_⟩
  have e : ∀ L : List Int, (L.flatMap fun x => (cInt x).cells.toList) = L.map cInt := by
    intro L
    induction L with
    | nil => rfl
    | cons x r ih => rw [List.flatMap_cons, ih]; rfl
  refine h.2.2.2.2 j u ?_
  rw [e] at hj ⊢
  rw [List.map_take, List.getElem?_take] at hj
  split at hj
  · exact hj
  · cases hj

/-- the side of a letter of a pass. -/
def sideB (f t x : Int) : Bool := decide (0 < x) == decide (f < t)
def wayL (f t : Int) (ls : List Int) : ByteArray := ⟨(ls.map fun x => if sideB f t x then (111 : UInt8) else 117).toArray⟩
def passCount (r : List Int) : Nat := max (runN r 1) (runN r (-1))
def passF (r : List Int) : Int := if runN r 1 < runN r (-1) then absI (atD 0 r 0) + 1 else absI (atD 0 r 0)
def passT (r : List Int) : Int := if runN r 1 < runN r (-1) then absI (atD 0 r 0) + 1 - passCount r else absI (atD 0 r 0) + passCount r
def passOf (r : List Int) : PassV := ⟨passF r, passT r, wayL (passF r) (passT r) (r.take (passCount r))⟩
def passesOf : Nat → List Int → List PassV
  | 0, _ => []
  | _, [] => []
  | n + 1, r => passOf r :: passesOf n (r.drop (passCount r))
theorem wayL_succ (f t : Int) (r : List Int) (k : Nat) (h : k < r.length) : wayL f t (r.take (k + 1)) = wayL f t (r.take k) ++ ⟨#[if sideB f t (atD 0 r k) then 111 else 117]⟩ := by
  have e2 : atD 0 r k = r[k] := by simp [atD, h]
  unfold wayL
  rw [List.take_succ_eq_append_getElem h, List.map_append, e2, ByteArray.mk_append_mk]
  rfl
theorem wayL_size (f t : Int) (ls : List Int) : (wayL f t ls).size = ls.length := by
  show (ls.map _).toArray.size = _
  simp
theorem atD_take {r : List Int} {c k : Nat} (h : k < c) : atD 0 (r.take c) k = atD 0 r k := by
  unfold atD
  rw [List.getD_eq_getElem?_getD, List.getD_eq_getElem?_getD, List.getElem?_take]
  simp [h]
theorem runGo_ge (l : List Int) (b : Int) : ∀ f k, k ≤ runGo l b k f
  | 0, k => Nat.le_refl _
  | f + 1, k => by
    rw [runGo]; split
    · have := runGo_ge l b f (k + 1); omega
    · exact Nat.le_refl _
theorem runGo_le (l : List Int) (b : Int) : ∀ f k, k ≤ l.length → runGo l b k f ≤ l.length
  | 0, k, h => h
  | f + 1, k, h => by
    rw [runGo]; split
    · next hh => exact runGo_le l b f (k + 1) hh.1
    · exact h
theorem passCount_pos {r : List Int} : 1 ≤ passCount r := by
  have := runGo_ge r 1 r.length 1
  unfold passCount runN
  omega
theorem passCount_le {r : List Int} (h : 0 < r.length) : passCount r ≤ r.length := by
  have h1 := runGo_le r 1 r.length 1 h
  have h2 := runGo_le r (-1) r.length 1 h
  unfold passCount runN
  omega
theorem passesOf_step {f : Nat} {r : List Int} (h : 0 < r.length) : passesOf (f + 1) r = passOf r :: passesOf f (r.drop (passCount r)) := by
  match r, h with
  | x :: r, _ => rfl
def passL (n : Int) (l : List Int) : List PassV := if wordE n l = 0 then passesOf l.length l else []

theorem Passes_any (n : Int) (a : Option Addr) (cap : Nat) (l : List Int) (w : World) (hS : Ints w a cap l) (hsm : l.length ≤ 1048576) :
    Calls Tryz.prog 46 #[.int .i64 n, .slice a l.length cap] w fun r w' => RetPsE w (passL n l) (wordE n l) r w' := by
  have hcap := hS.le
  have hm := hS.max
  have hk := CheckWord_any n a cap l w hS hsm
  by_cases h : wordE n l = 0
  · obtain ⟨h1, h2, h3, hall⟩ := wordE_fits h
    have e : passL n l = passesOf l.length l := if_pos h
    rw [e, h]
    rw [h] at hk
    have HK := hid hk; have HALL := hid hall; clear hk h e hall
    go_enter Tryz.func46, Tryz.ntmps46
    go_wp2_with fail
    refine HK.out.mono ?_
    rintro e w1 ⟨rfl, hb1⟩
    go_wp2_with fail
    go_loopw [1, 7] (fun v1 v7 wr => ∃ (a1 : Option Addr) (cap1 : Nat) (r : List Int) (ps : List PassV) (f : Nat), v1 = .slice a1 r.length cap1 ∧ Ints w a1 cap1 r ∧ OwnPs w.heap.size wr v7 ps ∧ ps.length + r.length ≤ l.length ∧ r.length ≤ f ∧ ps ++ passesOf f r = passesOf l.length l ∧ (∀ x ∈ r, x ≠ 0 ∧ -n < x ∧ x < n) ∧ Below w.heap.size w wr) (fun v1 _ _ => lenV v1)
    case atStart => exact ⟨a, cap, l, [], l.length, rfl, hS, own_nil cPassS, by simp, Nat.le_refl _, rfl, HALL.out, hb1⟩
    case round =>
      obtain ⟨a1, cap1, r, ps, f, rfl, hR, hO, hlen, hf, hgo, hall, hbr⟩ := hrel
      have hcap1 := hR.le
      have hm1 := hR.max
      by_cases h0 : 0 < r.length
      · obtain ⟨b, o, rfl, _⟩ := hR.cells (by decide) 0 0 h0
        have hin : ∀ j : Nat, j < r.length → atD 0 r j ∈ r := fun j hj => by simp [atD, hj]
        have hL : ∀ j : Nat, j < r.length → -1000 ≤ atD 0 r j ∧ atD 0 r j ≤ 1000 := fun j hj => by have := hall _ (hin j hj); omega
        have hrun1 := fun W (hW : Below w.heap.size w W) => run_any 1 _ cap1 r W (hR.below hW) (.inl rfl) h0 (by omega) hL
        have hrun2 := fun W (hW : Below w.heap.size w W) => run_any (-1) _ cap1 r W (hR.below hW) (.inr rfl) h0 (by omega) hL
        have hsz := fun W => size_any (atD 0 r 0) W (by have := hL 0 h0; simp at this; omega) (by have := hL 0 h0; simp at this; omega)
        have hfr : 0 ≤ absI (atD 0 r 0) ∧ absI (atD 0 r 0) ≤ 1000 := by have := hL 0 h0; simp at this; unfold absI; split <;> omega
        have hcp := passCount_pos (r := r)
        have hcl := passCount_le h0
        have hup : runN r 1 ≤ r.length := runGo_le r 1 r.length 1 h0
        have hdn : runN r (-1) ≤ r.length := runGo_le r (-1) r.length 1 h0
        have hmx : max (runN r 1 : Int) (runN r (-1)) = passCount r := by unfold passCount; omega
        obtain ⟨up, hu⟩ : ∃ u, u = runN r 1 := ⟨_, rfl⟩
        obtain ⟨dn, hd⟩ : ∃ u, u = runN r (-1) := ⟨_, rfl⟩
        obtain ⟨fr, hfre⟩ : ∃ u, u = absI (atD 0 r 0) := ⟨_, rfl⟩
        obtain ⟨c, hc⟩ : ∃ u, u = passCount r := ⟨_, rfl⟩
        rw [← hu] at hrun1 hmx hup; rw [← hd] at hrun2 hmx hdn; rw [← hfre] at hsz hfr; rw [← hc] at hcp hcl hmx
        have HU := hid hu; have HD := hid hd; have HF := hid hfre; have HC := hid hc
        have R1 := hid hrun1; have R2 := hid hrun2; have SZ := hid hsz; have HG := hid hgo; have HA := hid hall
        clear hu hd hfre hc hrun1 hrun2 hsz hgo hall hin hL
        have hR2 := hR.below hbr
        by_cases hud : up < dn
        · go_wp2_with (first | (go_at_call 95; with_reducible refine (R1.out _ hbr).mono ?_; rintro e w2 ⟨rfl, hb2⟩) | (go_at_call 95; with_reducible refine (R2.out _ (bnext hbr hb2)).mono ?_; rintro e w3 ⟨rfl, hb3⟩; have b3 := bnext (bnext hbr hb2) hb3; have hR3 := hR.below b3) | (with_reducible refine wpList_idx _ 0 E_ints F_int cInt1 (by with_unfolding_all rfl) (by with_unfolding_all rfl) (hR3) (by first | omega | (simp; done)) (by first | omega | (simp; done)) (fun _ => by with_unfolding_all rfl) (fun _ => ?_)) | (go_at_call 96; with_reducible refine (SZ.out _).mono ?_; rintro e w' ⟨rfl, rfl⟩))
          have hO3 := (hO.below hb2).below hb3
          have hFT : decide (fr + 1 < fr + 1 - c) = false := by simp; omega
          have hws0 : wayL (fr + 1) (fr + 1 - c) (r.take 0) = ⟨#[]⟩ := rfl
          go_loopw [14, 15, 55] (fun _ _ i wq => ∃ k : Nat, k ≤ c ∧ i = .int .i64 k ∧ wq.heap[w3.heap.size]? = some (.cells #[.int .i64 (fr + 1), .int .i64 (fr + 1 - c), .string (wayL (fr + 1) (fr + 1 - c) (r.take k))] 78 (0, 0)) ∧ Below w3.heap.size w3 wq ∧ w3.heap.size < wq.heap.size) (fun _ _ i _ => c - (intOf i).toNat)
          case atStart => exact ⟨0, by omega, rfl, by rw [hws0]; exact heap_alloc_new w3 _, bal (Below.refl _ _) _, by simp⟩
          case round =>
            obtain ⟨k, hk, rfl, hrow, hbq, hsq⟩ := hrel
            have c0 : wr.cell? ⟨w3.heap.size, 0, none⟩ = some (.int .i64 (fr + 1)) := by rw [cell_of_row _ _ _ _ _ _ hrow]; rfl
            have c1 : wr.cell? ⟨w3.heap.size, 1, none⟩ = some (.int .i64 (fr + 1 - c)) := by rw [cell_of_row _ _ _ _ _ _ hrow]; rfl
            have c2 : wr.cell? ⟨w3.heap.size, 2, none⟩ = some (.string (wayL (fr + 1) (fr + 1 - c) (r.take k))) := by rw [cell_of_row _ _ _ _ _ _ hrow]; rfl
            have f2 : wr.frozen? ⟨w3.heap.size, 2, none⟩ = false := frozen_of_row _ _ _ _ _ hrow
            have hsiz : (wayL (fr + 1) (fr + 1 - c) (r.take k)).size ≤ 200 := by rw [wayL_size]; simp; omega
            have HROW := hid hrow; clear hrow
            by_cases hlt : k < c
            · have hsu := wayL_succ (fr + 1) (fr + 1 - c) r k (by omega)
              have hRq := reps_take ((hR3.below hbq)) hcl
              have hxa := HA.out (atD 0 r k) (by simp [atD, show k < r.length by omega])
              have hat := atD_take (r := r) hlt
              have hlc : (r.take c).length = c := by simp; omega
              have HLC := hid hlc; have HAT := hid hat
              clear hlc hat
              by_cases hpos : 0 < atD 0 (r.take c) k
              · have hpos2 : 0 < atD 0 r k := by rw [← HAT.out]; exact hpos
                have e : sideB (fr + 1) (fr + 1 - c) (atD 0 r k) = false := by
                  rw [HAT.out] at hpos
                  have : decide (fr + 1 < fr + 1 - c) = false := hFT
                  unfold sideB; rw [this]; simp [hpos]
                rw [e] at hsu
                have HS := hid hsu; clear hsu e
                go_wp2_with (with_reducible refine wpList_idxN _ 0 E_ints F_int cInt1 (by with_unfolding_all rfl) (by with_unfolding_all rfl) (hRq) (HLC.out) (by first | omega | (simp; done)) (by first | omega | (simp; done)) (fun _ => by with_unfolding_all rfl) (fun _ => ?_))
                refine ⟨⟨k + 1, by omega, by go_num, by rw [heap_setCell_same _ _ _ _ _ _ HROW.out, HS.out]; rfl, Below.setCell (p := ⟨w3.heap.size, 2, none⟩) hbq (Nat.le_refl _) _, by simp [World.setCell]; exact hsq⟩, by simp [intOf]; omega⟩
              · have hneg2 : ¬ 0 < atD 0 r k := by rw [← HAT.out]; exact hpos
                have e : sideB (fr + 1) (fr + 1 - c) (atD 0 r k) = true := by
                  rw [HAT.out] at hpos
                  have : decide (fr + 1 < fr + 1 - c) = false := hFT
                  unfold sideB; rw [this]; simp [hpos]
                rw [e] at hsu
                have HS := hid hsu; clear hsu e
                go_wp2_with (with_reducible refine wpList_idxN _ 0 E_ints F_int cInt1 (by with_unfolding_all rfl) (by with_unfolding_all rfl) (hRq) (HLC.out) (by first | omega | (simp; done)) (by first | omega | (simp; done)) (fun _ => by with_unfolding_all rfl) (fun _ => ?_))
                refine ⟨⟨k + 1, by omega, by go_num, by rw [heap_setCell_same _ _ _ _ _ _ HROW.out, HS.out]; rfl, Below.setCell (p := ⟨w3.heap.size, 2, none⟩) hbq (Nat.le_refl _) _, by simp [World.setCell]; exact hsq⟩, by simp [intOf]; omega⟩
            · have : k = c := by omega
              subst this
              obtain ⟨P, hP⟩ : ∃ P : PassV, P = ⟨fr + 1, fr + 1 - k, wayL (fr + 1) (fr + 1 - k) (r.take k)⟩ := ⟨_, rfl⟩
              have hPo : passOf r = P := by
                rw [hP]
                unfold passOf passF passT
                rw [← HU.out, ← HD.out, ← HF.out, ← HC.out]
                simp [hud]
              obtain ⟨g, rfl⟩ : ∃ g, f = g + 1 := ⟨f - 1, by omega⟩
              have hstep := passesOf_step (f := g) h0
              rw [hPo, ← HC.out] at hstep
              have hgo2 : (ps ++ [P]) ++ passesOf g (r.drop k) = passesOf l.length l := by
                rw [← HG.out, hstep]; simp
              have hO4 := hO3.below hbq
              have b4 := bnext b3 hbq
              have hbs := b4.size
              have hRd := reps_drop hR hcl
              have hlp : (ps ++ [P]).length + (r.drop k).length ≤ l.length := by simp; omega
              have HP := hid hP
              have HGO2 := hid hgo2; have HLP := hid hlp
              clear hstep hgo2 hPo hlp hP
              go_wp2_with (first | ((with_reducible refine wpList_app (l := ps) (ys := [(⟨fr + 1, fr + 1 - k, wayL (fr + 1) (fr + 1 - k) (r.take k)⟩)]) E_passes (by with_unfolding_all rfl) (by with_unfolding_all rfl) ((hO4).alloc _) (reps_new1 cPassS ((⟨fr + 1, fr + 1 - k, wayL (fr + 1) (fr + 1 - k) (r.take k)⟩)) _ _ (by simp) rfl) cPassO (by simp; omega) (by first | omega | (simp; omega)) (by simp; omega) ?_); intro v5 w5 ho5 hg5 hat5))
              rw [← HP.out] at ho5
              refine ⟨⟨_, _, r.drop k, ps ++ [P], g, by rw [List.length_drop], hRd, ho5, HLP.out, by simp; omega, HGO2.out, fun x hx => HA.out x (List.mem_of_mem_drop hx), below_own (bal b4 _) hg5 (hO4.alloc _) (Nat.le_refl _)⟩, by simp [lenV]; omega⟩
        · go_wp2_with (first | (go_at_call 95; with_reducible refine (R1.out _ hbr).mono ?_; rintro e w2 ⟨rfl, hb2⟩) | (go_at_call 95; with_reducible refine (R2.out _ (bnext hbr hb2)).mono ?_; rintro e w3 ⟨rfl, hb3⟩; have b3 := bnext (bnext hbr hb2) hb3; have hR3 := hR.below b3) | (with_reducible refine wpList_idx _ 0 E_ints F_int cInt1 (by with_unfolding_all rfl) (by with_unfolding_all rfl) (hR3) (by first | omega | (simp; done)) (by first | omega | (simp; done)) (fun _ => by with_unfolding_all rfl) (fun _ => ?_)) | (go_at_call 96; with_reducible refine (SZ.out _).mono ?_; rintro e w' ⟨rfl, rfl⟩))
          have hO3 := (hO.below hb2).below hb3
          have hFT : decide (fr < fr + c) = true := by simp; omega
          have hws0 : wayL (fr) (fr + c) (r.take 0) = ⟨#[]⟩ := rfl
          go_loopw [14, 15, 55] (fun _ _ i wq => ∃ k : Nat, k ≤ c ∧ i = .int .i64 k ∧ wq.heap[w3.heap.size]? = some (.cells #[.int .i64 (fr), .int .i64 (fr + c), .string (wayL (fr) (fr + c) (r.take k))] 78 (0, 0)) ∧ Below w3.heap.size w3 wq ∧ w3.heap.size < wq.heap.size) (fun _ _ i _ => c - (intOf i).toNat)
          case atStart => exact ⟨0, by omega, rfl, by rw [hws0]; exact heap_alloc_new w3 _, bal (Below.refl _ _) _, by simp⟩
          case round =>
            obtain ⟨k, hk, rfl, hrow, hbq, hsq⟩ := hrel
            have c0 : wr.cell? ⟨w3.heap.size, 0, none⟩ = some (.int .i64 (fr)) := by rw [cell_of_row _ _ _ _ _ _ hrow]; rfl
            have c1 : wr.cell? ⟨w3.heap.size, 1, none⟩ = some (.int .i64 (fr + c)) := by rw [cell_of_row _ _ _ _ _ _ hrow]; rfl
            have c2 : wr.cell? ⟨w3.heap.size, 2, none⟩ = some (.string (wayL (fr) (fr + c) (r.take k))) := by rw [cell_of_row _ _ _ _ _ _ hrow]; rfl
            have f2 : wr.frozen? ⟨w3.heap.size, 2, none⟩ = false := frozen_of_row _ _ _ _ _ hrow
            have hsiz : (wayL (fr) (fr + c) (r.take k)).size ≤ 200 := by rw [wayL_size]; simp; omega
            have HROW := hid hrow; clear hrow
            by_cases hlt : k < c
            · have hsu := wayL_succ (fr) (fr + c) r k (by omega)
              have hRq := reps_take ((hR3.below hbq)) hcl
              have hxa := HA.out (atD 0 r k) (by simp [atD, show k < r.length by omega])
              have hat := atD_take (r := r) hlt
              have hlc : (r.take c).length = c := by simp; omega
              have HLC := hid hlc; have HAT := hid hat
              clear hlc hat
              by_cases hpos : 0 < atD 0 (r.take c) k
              · have hpos2 : 0 < atD 0 r k := by rw [← HAT.out]; exact hpos
                have e : sideB (fr) (fr + c) (atD 0 r k) = true := by
                  rw [HAT.out] at hpos
                  have : decide (fr < fr + c) = true := hFT
                  unfold sideB; rw [this]; simp [hpos]
                rw [e] at hsu
                have HS := hid hsu; clear hsu e
                go_wp2_with (with_reducible refine wpList_idxN _ 0 E_ints F_int cInt1 (by with_unfolding_all rfl) (by with_unfolding_all rfl) (hRq) (HLC.out) (by first | omega | (simp; done)) (by first | omega | (simp; done)) (fun _ => by with_unfolding_all rfl) (fun _ => ?_))
                refine ⟨⟨k + 1, by omega, by go_num, by rw [heap_setCell_same _ _ _ _ _ _ HROW.out, HS.out]; rfl, Below.setCell (p := ⟨w3.heap.size, 2, none⟩) hbq (Nat.le_refl _) _, by simp [World.setCell]; exact hsq⟩, by simp [intOf]; omega⟩
              · have hneg2 : ¬ 0 < atD 0 r k := by rw [← HAT.out]; exact hpos
                have e : sideB (fr) (fr + c) (atD 0 r k) = false := by
                  rw [HAT.out] at hpos
                  have : decide (fr < fr + c) = true := hFT
                  unfold sideB; rw [this]; simp [hpos]
                rw [e] at hsu
                have HS := hid hsu; clear hsu e
                go_wp2_with (with_reducible refine wpList_idxN _ 0 E_ints F_int cInt1 (by with_unfolding_all rfl) (by with_unfolding_all rfl) (hRq) (HLC.out) (by first | omega | (simp; done)) (by first | omega | (simp; done)) (fun _ => by with_unfolding_all rfl) (fun _ => ?_))
                refine ⟨⟨k + 1, by omega, by go_num, by rw [heap_setCell_same _ _ _ _ _ _ HROW.out, HS.out]; rfl, Below.setCell (p := ⟨w3.heap.size, 2, none⟩) hbq (Nat.le_refl _) _, by simp [World.setCell]; exact hsq⟩, by simp [intOf]; omega⟩
            · have : k = c := by omega
              subst this
              obtain ⟨P, hP⟩ : ∃ P : PassV, P = ⟨fr, fr + k, wayL (fr) (fr + k) (r.take k)⟩ := ⟨_, rfl⟩
              have hPo : passOf r = P := by
                rw [hP]
                unfold passOf passF passT
                rw [← HU.out, ← HD.out, ← HF.out, ← HC.out]
                simp [hud]
              obtain ⟨g, rfl⟩ : ∃ g, f = g + 1 := ⟨f - 1, by omega⟩
              have hstep := passesOf_step (f := g) h0
              rw [hPo, ← HC.out] at hstep
              have hgo2 : (ps ++ [P]) ++ passesOf g (r.drop k) = passesOf l.length l := by
                rw [← HG.out, hstep]; simp
              have hO4 := hO3.below hbq
              have b4 := bnext b3 hbq
              have hbs := b4.size
              have hRd := reps_drop hR hcl
              have hlp : (ps ++ [P]).length + (r.drop k).length ≤ l.length := by simp; omega
              have HP := hid hP
              have HGO2 := hid hgo2; have HLP := hid hlp
              clear hstep hgo2 hPo hlp hP
              go_wp2_with (first | ((with_reducible refine wpList_app (l := ps) (ys := [(⟨fr, fr + k, wayL (fr) (fr + k) (r.take k)⟩)]) E_passes (by with_unfolding_all rfl) (by with_unfolding_all rfl) ((hO4).alloc _) (reps_new1 cPassS ((⟨fr, fr + k, wayL (fr) (fr + k) (r.take k)⟩)) _ _ (by simp) rfl) cPassO (by simp; omega) (by first | omega | (simp; omega)) (by simp; omega) ?_); intro v5 w5 ho5 hg5 hat5))
              rw [← HP.out] at ho5
              refine ⟨⟨_, _, r.drop k, ps ++ [P], g, by rw [List.length_drop], hRd, ho5, HLP.out, by simp; omega, HGO2.out, fun x hx => HA.out x (List.mem_of_mem_drop hx), below_own (bal b4 _) hg5 (hO4.alloc _) (Nat.le_refl _)⟩, by simp [lenV]; omega⟩
      · have : r = [] := List.eq_nil_of_length_eq_zero (by omega)
        subst this
        have hgo2 : ps = passesOf l.length l := by rw [← hgo]; cases f <;> simp [passesOf]
        subst hgo2
        clear hgo
        go_wp2_with fail
        go_ret2
        exact RetPsE.own _ rfl hO (Nat.le_refl _) hbr
  · have e : passL n l = [] := if_neg h
    obtain ⟨q, hq⟩ : ∃ q, q = wordE n l := ⟨_, rfl⟩
    rw [e, ← hq]
    rw [← hq] at h hk
    have hne : (q != 0) = true := by simpa using h
    have HK := hid hk; clear hk h e hq
    go_enter Tryz.func46, Tryz.ntmps46
    go_wp2_with fail
    refine HK.out.mono ?_
    rintro e w1 ⟨rfl, hb1⟩
    go_wp2_with fail
    go_ret2
    exact RetPsE.none rfl hb1
end Go.Proofs.YtmomeggnegcheaaGreatDoor
