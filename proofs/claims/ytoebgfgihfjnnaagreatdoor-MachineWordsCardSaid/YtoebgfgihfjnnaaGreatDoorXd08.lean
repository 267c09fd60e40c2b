/- Contracts and plain facts that the claim uses (MbQ MbR MaJ MbS MaK QrQ QrG MaL). Conditions: as each one states. -/
import Derived.Test.YtoebgfgihfjnnaaGreatDoorXd06
import Derived.Test.YtoebgfgihfjnnaaGreatDoorXd07
set_option linter.all false

namespace Go.Proofs.YtoebgfgihfjnnaaGreatDoor
set_option maxRecDepth 100000

abbrev catO (l : List (Option Int)) : List Int := l.filterMap id
def opG (m : MacV) (l : List Int) (g : Int) (i : Nat) : Option Int := idxO l (slotG m g i)
theorem orderG_eq (m : MacV) (l : List Int) (g : Int) : orderG m l g = catO [opG m l g 0, opG m l g 1, opG m l g 2, opG m l g 3] := by
 unfold orderG catO opG
 rw [slotsG_eq]
 simp [List.filterMap_cons]
def afterG (m : MacV) (l : List Int) (g : Int) : List Int := catO [opG m l g 2, opG m l g 0, opG m l g 3, opG m l g 1]
theorem crossG_eq (m : MacV) (l : List Int) (g : Int) : crossG m l g = (crossA m l g 1 2).toList ++ ((crossA m l g 0 2).toList ++ (crossA m l g 1 3).toList) := by
 unfold crossG pairsX
 simp only [List.filterMap_cons, List.filterMap_nil]
 generalize crossA m l g 1 2 = a
 generalize crossA m l g 0 2 = b
 generalize crossA m l g 1 3 = c
 cases a <;> cases b <;> cases c <;> rfl
def mkX (m : MacV) (g : Int) (a b : Int) : CrM := if fwdM m g then ⟨g, b, a, a⟩ else ⟨g, a, b, a⟩
theorem mkX_going (m : MacV) (g a b : Int) : (mkX m g a b).going = a := by unfold mkX; split <;> rfl
theorem crossA_eq (m : MacV) (l : List Int) (g : Int) (x y : Nat) : crossA m l g x y = bothX (mkX m g) (opG m l g x) (opG m l g y) := rfl
theorem catO_app (x y : List (Option Int)) : catO (x ++ y) = catO x ++ catO y := by simp [catO]
theorem crossG_row (m : MacV) (l : List Int) (g : Int) {A C : List Int} (hn : (A ++ orderG m l g ++ C).Nodup) (out : List Int) :
  ∃ out', (crossG m l g).foldl weaveC (A ++ orderG m l g ++ C, out) = (A ++ afterG m l g ++ C, out') ∧ (A ++ afterG m l g ++ C).Nodup := by
 rw [crossG_eq, orderG_eq] at *
 unfold afterG
 rw [crossA_eq, crossA_eq, crossA_eq]
 generalize opG m l g 0 = o0 at *
 generalize opG m l g 1 = o1 at *
 generalize opG m l g 2 = o2 at *
 generalize opG m l g 3 = o3 at *
 have e1 : A ++ catO [o0, o1, o2, o3] ++ C = (A ++ catO [o0]) ++ [o1, o2].filterMap id ++ (catO [o3] ++ C) := by
  rw [show [o0, o1, o2, o3] = [o0] ++ ([o1, o2] ++ [o3]) from rfl, catO_app, catO_app]; simp only [catO, List.append_assoc]
 have e2 : (A ++ catO [o0]) ++ [o2, o1].filterMap id ++ (catO [o3] ++ C) = A ++ [o0, o2].filterMap id ++ (catO [o1, o3] ++ C) := by
  rw [show [o0, o2] = [o0] ++ [o2] from rfl, show [o2, o1] = [o2] ++ [o1] from rfl, show [o1, o3] = [o1] ++ [o3] from rfl, catO_app, ]
  simp only [catO, List.filterMap_append, List.append_assoc]
 have e3 : A ++ [o2, o0].filterMap id ++ (catO [o1, o3] ++ C) = (A ++ catO [o2, o0]) ++ [o1, o3].filterMap id ++ C := by
  simp only [catO, List.append_assoc]
 have e4 : (A ++ catO [o2, o0]) ++ [o3, o1].filterMap id ++ C = A ++ catO [o2, o0, o3, o1] ++ C := by
  rw [show [o2, o0, o3, o1] = [o2, o0] ++ [o3, o1] from rfl, catO_app]; simp only [catO, List.append_assoc]
 rw [e1] at hn ⊢
 rw [List.foldl_append, List.foldl_append]
 obtain ⟨u1, h1, n1⟩ := cross_swap hn (mkX_going m g) out
 rw [h1]
 rw [e2] at n1 ⊢
 obtain ⟨u2, h2, n2⟩ := cross_swap n1 (mkX_going m g) u1
 rw [h2]
 rw [e3] at n2 ⊢
 obtain ⟨u3, h3, n3⟩ := cross_swap n2 (mkX_going m g) u2
 rw [h3]
 rw [e4] at n3 ⊢
 exact ⟨u3, rfl, n3⟩
theorem crossL_row (m : MacV) (l : List Int) : ∀ (gs : List Int) (A out : List Int), (A ++ gs.flatMap (orderG m l)).Nodup →
  ∃ out', (gs.flatMap (crossG m l)).foldl weaveC (A ++ gs.flatMap (orderG m l), out) = (A ++ gs.flatMap (afterG m l), out') ∧ (A ++ gs.flatMap (afterG m l)).Nodup
 | [], A, out, hn => ⟨out, rfl, hn⟩
 | g :: gs, A, out, hn => by
   simp only [List.flatMap_cons] at hn ⊢
   rw [← List.append_assoc] at hn ⊢
   obtain ⟨u1, h1, n1⟩ := crossG_row m l g hn out
   rw [List.foldl_append, h1]
   obtain ⟨u2, h2, n2⟩ := crossL_row m l gs (A ++ afterG m l g) u1 n1
   rw [h2]
   rw [← List.append_assoc]
   exact ⟨u2, rfl, n2⟩

theorem gearsL_mem {m : MacV} {g : Int} : g ∈ gearsL m ↔ 0 ≤ g ∧ g < m.gears := by
 unfold gearsL
 simp only [List.mem_map, List.mem_range]
 constructor
 ·rintro ⟨k, hk, rfl⟩; omega
 ·intro h; exact ⟨g.toNat, by omega, by omega⟩
theorem gearsL_nodup (m : MacV) : (gearsL m).Nodup := by
 unfold gearsL List.Nodup
 rw [List.pairwise_map]
 have := List.nodup_range (n := m.gears.toNat)
 exact this.imp (fun h e => h (by omega))
theorem slotsG_nodup (m : MacV) (g : Int) : (slotsG m g).Nodup := by
 unfold slotsG
 split <;> simp <;> omega
theorem slotsG_mem {m : MacV} {g s : Int} : s ∈ slotsG m g ↔ s / 4 = g := by
 unfold slotsG
 split <;> simp <;> omega
theorem seqM_nodup (m : MacV) : ((gearsL m).flatMap (slotsG m)).Nodup := by
 unfold List.Nodup
 rw [List.pairwise_flatMap]
 refine ⟨fun g _ => slotsG_nodup m g, (gearsL_nodup m).imp ?_⟩
 intro a b hab x hx y hy e
 rw [slotsG_mem] at hx hy
 exact hab (by rw [← hx, ← hy, e])
theorem idxO_inj {l : List Int} {x y i : Int} (h : idxO l x = some i) (k : idxO l y = some i) : x = y := by
 have a := (idxO_some h).2.2
 have b := (idxO_some k).2.2
 rw [a] at b
 exact Option.some.inj b
theorem orderM_seq (m : MacV) (l : List Int) : orderM m l = ((gearsL m).flatMap (slotsG m)).filterMap (idxO l) := by
 unfold orderM orderG
 rw [List.filterMap_flatMap]
theorem orderM_nodup (m : MacV) (l : List Int) : (orderM m l).Nodup := by
 rw [orderM_seq]
 unfold List.Nodup
 rw [List.pairwise_filterMap]
 refine (seqM_nodup m).imp ?_
 intro a b hab x hx y hy e
 subst e
 exact hab (idxO_inj hx hy)
def afterM (m : MacV) (l : List Int) : List Int := (gearsL m).flatMap (afterG m l)
theorem weaveS_row (m : MacV) (l out : List Int) : ∃ out', weaveS m (orderM m l, out) l = (afterM m l, out') ∧ (afterM m l).Nodup := by
 have := crossL_row m l (gearsL m) [] out (by simpa [orderM] using orderM_nodup m l)
 simpa [weaveS, crossM, orderM, afterM] using this

theorem idxO_map {l : List Int} {f : Int → Int} {s t : Int} (h : ∀ x ∈ l, f x = s ↔ x = t) : idxO (l.map f) s = idxO l t := by
 have e : (l.map f).findIdx (· == s) = l.findIdx (· == t) := by
  rw [List.findIdx_map]
  induction l with
  | nil => rfl
  | cons x r ih =>
   rw [List.findIdx_cons, List.findIdx_cons, ih (fun y hy => h y (List.mem_cons_of_mem _ hy))]
   have := h x List.mem_cons_self
   have e2 : ((fun x => x == s) ∘ f) x = (x == t) := by
    simp only [Function.comp]
    rw [Bool.eq_iff_iff]; simpa using this
   rw [e2]
 unfold idxO
 rw [e, List.length_map]
theorem rot_slot {m : MacV} {g : Int} : rotM m (slotG m g 2) = slotG m g 0 ∧ rotM m (slotG m g 0) = slotG m g 1 ∧ rotM m (slotG m g 3) = slotG m g 2 ∧ rotM m (slotG m g 1) = slotG m g 3 := by
 have hd := fun i => slotG_div m g i
 unfold rotM
 rw [hd, hd, hd, hd]
 cases hf : fwdM m g <;> simp [slotG, hf] <;> omega
theorem slotG_rng {m : MacV} {g : Int} (h0 : 0 ≤ g) (h1 : g < m.gears) (i : Nat) : 0 ≤ slotG m g i ∧ slotG m g i < 4 * m.gears := by
 unfold slotG
 split
 ·omega
 ·split <;> omega
 ·split <;> omega
 ·omega
theorem idxO_rot {m : MacV} {l : List Int} (hl : ∀ x ∈ l, 0 ≤ x ∧ x < 4 * m.gears) {s t : Int} (h0 : 0 ≤ t) (h1 : t < 4 * m.gears) (h : rotM m t = s) : idxO (l.map (rotM m)) s = idxO l t :=
 idxO_map fun x hx => ⟨fun e => rot_inj (hl x hx).1 (hl x hx).2 h0 h1 (e.trans h.symm), fun e => e ▸ h⟩
theorem over_inj {m : MacV} {s t : Int} (h0 : 0 ≤ s) (h1 : s < 4 * m.gears) (k0 : 0 ≤ t) (k1 : t < 4 * m.gears) (e : overM m s = overM m t) : s = t := by
 have := congrArg (overM m) e
 rwa [over_over h0 h1, over_over k0 k1] at this
theorem idxO_over {m : MacV} {l : List Int} (hl : ∀ x ∈ l, 0 ≤ x ∧ x < 4 * m.gears) {s : Int} (h0 : 0 ≤ s) (h1 : s < 4 * m.gears) : idxO (l.map (overM m)) s = idxO l (overM m s) :=
 idxO_map fun x hx => ⟨fun e => by rw [← e, over_over (hl x hx).1 (hl x hx).2], fun e => by rw [e, over_over h0 h1]⟩
theorem after_rot {m : MacV} {l : List Int} (hl : ∀ x ∈ l, 0 ≤ x ∧ x < 4 * m.gears) : afterM m l = orderM m (l.map (rotM m)) := by
 unfold afterM orderM
 have key : ∀ g ∈ gearsL m, afterG m l g = orderG m (l.map (rotM m)) g := by
  intro g hg
  obtain ⟨h0, h1⟩ := gearsL_mem.1 hg
  obtain ⟨r2, r0, r3, r1⟩ := rot_slot (m := m) (g := g)
  have k := fun i => slotG_rng (m := m) h0 h1 i
  rw [orderG_eq]
  unfold afterG opG
  rw [idxO_rot hl (k 2).1 (k 2).2 r2, idxO_rot hl (k 0).1 (k 0).2 r0, idxO_rot hl (k 3).1 (k 3).2 r3, idxO_rot hl (k 1).1 (k 1).2 r1]
 have : ∀ gs : List Int, (∀ g ∈ gs, g ∈ gearsL m) → gs.flatMap (afterG m l) = gs.flatMap (orderG m (l.map (rotM m))) := by
  intro gs
  induction gs with
  | nil => intro _; rfl
  | cons g gs ih => intro h; rw [List.flatMap_cons, List.flatMap_cons, key g (h g List.mem_cons_self), ih (fun x hx => h x (List.mem_cons_of_mem _ hx))]
 exact this _ (fun _ h => h)

/-- the same, taken apart at the shared places. -/
theorem regroup (F : Nat → List Int) (a bc d : Nat → List Int) (hF : ∀ g, F g = a g ++ bc g ++ d g) : ∀ k : Nat, (List.range (k + 1)).flatMap F = a 0 ++ (List.range k).flatMap (fun g => bc g ++ (d g ++ a (g + 1))) ++ (bc k ++ d k)
 | 0 => by simp [List.range_succ, hF]
 | k + 1 => by
   rw [List.range_succ, List.flatMap_append, regroup F a bc d hF k, List.range_succ, List.flatMap_append]
   simp [hF, List.append_assoc]
theorem placeM_slot {m : MacV} (g : Int) : placeM m (slotG m g 0) = g ∧ placeM m (slotG m g 1) = -1 ∧ placeM m (slotG m g 2) = -1 ∧ (m.ring = false → placeM m (slotG m g 3) = g + 1) := by
 cases hf : fwdM m g <;> unfold placeM slotG <;> simp only [hf, if_true, if_false, Bool.false_eq_true] <;> refine ⟨?_, ?_, ?_, fun hr => ?_⟩ <;> (repeat' split) <;> first | omega | simp_all <;> omega
/-- no two of these carriers are in both slots of a shared place. -/
def NoHit (m : MacV) (l : List Int) : Prop := ∀ x ∈ l, ∀ y ∈ l, x ≠ y → hitM m x y = false
theorem order_over {m : MacV} {l : List Int} (hr : m.ring = false) (hl : ∀ x ∈ l, 0 ≤ x ∧ x < 4 * m.gears) (hno : NoHit m l) : orderM m (l.map (overM m)) = orderM m l := by
 by_cases hg : m.gears ≤ 0
 ·have : m.gears.toNat = 0 := by omega
  simp [orderM, gearsL, this]
 obtain ⟨k, hk⟩ : ∃ k : Nat, m.gears.toNat = k + 1 := ⟨m.gears.toNat - 1, by omega⟩
 have hkg : m.gears = (k : Int) + 1 := by omega
 have hu : ∀ L : List Int, orderM m L = (List.range (k + 1)).flatMap (fun g : Nat => orderG m L (g : Int)) := by
  intro L
  unfold orderM gearsL
  rw [hk, List.flatMap_map]
 have hF : ∀ (L : List Int) (g : Nat), orderG m L (g : Int) = catO [opG m L g 0] ++ catO [opG m L g 1, opG m L g 2] ++ catO [opG m L g 3] := by
  intro L g
  rw [orderG_eq, ← catO_app, ← catO_app]
  rfl
 rw [hu, hu, regroup _ _ _ _ (hF (l.map (overM m))) k, regroup _ _ _ _ (hF l) k]
 have stay : ∀ (g i : Nat), (g : Int) < m.gears → goesM m (slotG m g i) = false → opG m (l.map (overM m)) g i = opG m l g i := by
  intro g i hg hno
  obtain ⟨s0, s1⟩ := slotG_rng (m := m) (g := (g : Int)) (by omega) hg i
  unfold opG
  rw [idxO_over hl s0 s1]
  unfold overM
  rw [hno]
  rfl
 have gm1 : ∀ (g : Nat), goesM m (slotG m g 1) = false := fun g => by unfold goesM; rw [(placeM_slot g).2.1]; simp
 have gm2 : ∀ (g : Nat), goesM m (slotG m g 2) = false := fun g => by unfold goesM; rw [(placeM_slot g).2.2.1]; simp
 have gm0 : goesM m (slotG m ((0 : Nat) : Int) 0) = false := by unfold goesM; rw [(placeM_slot _).1]; simp [sharedM, hr]
 have gmk : goesM m (slotG m (k : Int) 3) = false := by
  unfold goesM
  rw [(placeM_slot (m := m) (k : Int)).2.2.2 hr]
  have : sharedM m ((k : Int) + 1) = false := by unfold sharedM; simp [hr, hkg]
  rw [this]; simp
 have z0 : catO [opG m (l.map (overM m)) ((0 : Nat) : Int) 0] = catO [opG m l ((0 : Nat) : Int) 0] := by rw [stay 0 0 (by omega) gm0]
 have zk : catO [opG m (l.map (overM m)) k 1, opG m (l.map (overM m)) k 2] ++ catO [opG m (l.map (overM m)) k 3] = catO [opG m l k 1, opG m l k 2] ++ catO [opG m l k 3] := by
  rw [stay k 1 (by omega) (gm1 k), stay k 2 (by omega) (gm2 k), stay k 3 (by omega) gmk]
 rw [z0, zk]
 congr 2
 have mid : ∀ g : Nat, g < k → (catO [opG m (l.map (overM m)) g 1, opG m (l.map (overM m)) g 2] ++ (catO [opG m (l.map (overM m)) g 3] ++ catO [opG m (l.map (overM m)) ((g + 1 : Nat) : Int) 0])) = (catO [opG m l g 1, opG m l g 2] ++ (catO [opG m l g 3] ++ catO [opG m l ((g + 1 : Nat) : Int) 0])) := by
  intro g hg
  rw [stay g 1 (by omega) (gm1 g), stay g 2 (by omega) (gm2 g)]
  congr 1
  have p3 := (placeM_slot (m := m) (g : Int)).2.2.2 hr
  have p0 := (placeM_slot (m := m) ((g + 1 : Nat) : Int)).1
  have e3 : slotG m (g : Int) 3 = 4 * (g : Int) + 2 := rfl
  have e0 : slotG m ((g + 1 : Nat) : Int) 0 = 4 * ((g + 1 : Nat) : Int) := rfl
  have hsh : sharedM m ((g : Int) + 1) = true := shared_iff.2 ⟨by omega, by omega, .inr (by omega)⟩
  have r3 := slotG_rng (m := m) (g := (g : Int)) (by omega) (by omega) 3
  have r0 := slotG_rng (m := m) (g := ((g + 1 : Nat) : Int)) (by omega) (by omega) 0
  cases hsw : m.sw.contains ((g : Int) + 1)
  ·have hb : befM m ((g : Int) + 1) = g := by unfold befM; rw [if_neg (by omega)]; omega
   have o3 : overM m (slotG m (g : Int) 3) = slotG m ((g + 1 : Nat) : Int) 0 := by
    have hgo : goesM m (slotG m (g : Int) 3) = true := by unfold goesM; rw [p3, hsh, hsw]; simp; omega
    unfold overM
    rw [if_pos hgo, p3, hb, e3, e0]
    omega
   have o0 : overM m (slotG m ((g + 1 : Nat) : Int) 0) = slotG m (g : Int) 3 := by rw [← o3, over_over r3.1 r3.2]
   have a3 : opG m (l.map (overM m)) (g : Int) 3 = opG m l ((g + 1 : Nat) : Int) 0 := by unfold opG; rw [idxO_over hl r3.1 r3.2, o3]
   have a0 : opG m (l.map (overM m)) ((g + 1 : Nat) : Int) 0 = opG m l (g : Int) 3 := by unfold opG; rw [idxO_over hl r0.1 r0.2, o0]
   rw [a3, a0]
   -- at most one of them is there
   match h1 : opG m l (g : Int) 3, h2 : opG m l ((g + 1 : Nat) : Int) 0 with
   | none, none => rfl
   | none, some b => rfl
   | some a, none => rfl
   | some a, some b =>
    exfalso
    have m1 := List.mem_of_getElem? (idxO_some h1).2.2
    have m2 := List.mem_of_getElem? (idxO_some h2).2.2
    have hh := hno _ m1 _ m2 (by rw [e3, e0]; omega)
    unfold hitM at hh
    rw [p3, p0, hsh] at hh
    simp at hh
    omega
  ·have g3 : goesM m (slotG m (g : Int) 3) = false := by unfold goesM; rw [p3, hsw]; simp
   have g0 : goesM m (slotG m ((g + 1 : Nat) : Int) 0) = false := by
    unfold goesM; rw [p0, show ((g + 1 : Nat) : Int) = (g : Int) + 1 by omega, hsw]; simp
   rw [stay g 3 (by omega) g3, stay (g + 1) 0 (by omega) g0]
 have : ∀ j, j ≤ k → (List.range j).flatMap (fun g : Nat => catO [opG m (l.map (overM m)) (g : Int) 1, opG m (l.map (overM m)) (g : Int) 2] ++ (catO [opG m (l.map (overM m)) (g : Int) 3] ++ catO [opG m (l.map (overM m)) ((g + 1 : Nat) : Int) 0])) = (List.range j).flatMap (fun g : Nat => catO [opG m l (g : Int) 1, opG m l (g : Int) 2] ++ (catO [opG m l (g : Int) 3] ++ catO [opG m l ((g + 1 : Nat) : Int) 0])) := by
  intro j
  induction j with
  | zero => intro _; rfl
  | succ j ih => intro h; rw [List.range_succ, List.flatMap_append, List.flatMap_append, ih (by omega)]; simp only [List.flatMap_cons, List.flatMap_nil, List.append_nil]; rw [mid j (by omega)]
 exact this k (Nat.le_refl _)
theorem order_step {m : MacV} {l : List Int} (hr : m.ring = false) (hl : ∀ x ∈ l, 0 ≤ x ∧ x < 4 * m.gears) (hno : NoHit m (stepL m l)) : afterM m l = orderM m (stepL m l) := by
 have hl2 : ∀ x ∈ l.map (rotM m), 0 ≤ x ∧ x < 4 * m.gears := by
  intro x hx
  obtain ⟨y, hy, rfl⟩ := List.mem_map.1 hx
  have := rot_rng (hl y hy).1 (hl y hy).2
  exact ⟨this.1, this.2.1⟩
 have e : stepL m l = (l.map (rotM m)).map (overM m) := by unfold stepL; rw [List.map_map]; rfl
 rw [after_rot hl, e, order_over hr hl2]
 intro x hx y hy hxy
 have hx2 := hl2 x hx
 have hy2 := hl2 y hy
 have h1 := hno (overM m x) (by rw [e]; exact List.mem_map_of_mem hx) (overM m y) (by rw [e]; exact List.mem_map_of_mem hy) (fun e => hxy (over_inj hx2.1 hx2.2 hy2.1 hy2.2 e))
 have pl : ∀ s, 0 ≤ s → s < 4 * m.gears → placeM m (overM m s) = placeM m s := by
  intro s h0 h1
  rcases over_cases h0 h1 with ⟨_, e⟩ | ⟨_, _, _, hp, _⟩
  ·rw [e]
  ·exact hp
 unfold hitM at h1 ⊢
 rw [pl x hx2.1 hx2.2, pl y hy2.1 hy2.2] at h1
 exact h1
end Go.Proofs.YtoebgfgihfjnnaaGreatDoor

namespace Go.Proofs.YtoebgfgihfjnnaaGreatDoor
set_option maxRecDepth 100000

def rowC (r : List Int) (c : CrM) : List Int := swpL r (idxZ r c.going).toNat
theorem fold_fst : ∀ (cs : List CrM) (r out : List Int), (cs.foldl weaveC (r, out)).1 = cs.foldl rowC r
 | [], r, out => rfl
 | c :: cs, r, out => by rw [List.foldl_cons, List.foldl_cons, weaveC]; exact fold_fst cs _ _
theorem fold_len : ∀ (cs : List CrM) (r out : List Int), (cs.foldl weaveC (r, out)).2.length = out.length + cs.length
 | [], r, out => rfl
 | c :: cs, r, out => by
   rw [List.foldl_cons, weaveC, fold_len cs, List.length_append, List.length_cons, List.length_nil, List.length_cons]; dsimp only; omega
def goodC : List Int → List CrM → Prop
 | _, [] => True
 | r, c :: cs => (∃ i : Nat, idxO r c.going = some (i : Int) ∧ i + 1 < r.length) ∧ goodC (rowC r c) cs
theorem goodC_app : ∀ (xs ys : List CrM) (r : List Int), goodC r (xs ++ ys) ↔ goodC r xs ∧ goodC (xs.foldl rowC r) ys
 | [], ys, r => by simp [goodC]
 | c :: xs, ys, r => by
   rw [List.cons_append, goodC, goodC, List.foldl_cons, goodC_app xs ys (rowC r c), and_assoc]
theorem cross_good {A C : List Int} {x y : Option Int} (hn : (A ++ [x, y].filterMap id ++ C).Nodup) {f : Int → Int → CrM} (hf : ∀ a b, (f a b).going = a) :
  goodC (A ++ [x, y].filterMap id ++ C) (bothX f x y).toList := by
 match x, y with
 | none, none => trivial
 | none, some b => trivial
 | some a, none => trivial
 | some a, some b =>
  have ha : a ∉ A := by
   intro hm
   have h1 := List.nodup_append.1 (List.append_assoc _ _ _ ▸ hn)
   exact h1.2.2 a hm a (by simp) rfl
  have e : (A ++ [some a, some b].filterMap id ++ C) = A ++ a :: b :: C := by simp
  rw [e]
  refine ⟨⟨A.length, ?_, ?_⟩, trivial⟩
  ·rw [hf]; exact idxO_mid ha
  ·simp
theorem crossG_good (m : MacV) (l : List Int) (g : Int) {A C : List Int} (hn : (A ++ orderG m l g ++ C).Nodup) : goodC (A ++ orderG m l g ++ C) (crossG m l g) := by
 rw [crossG_eq, orderG_eq] at *
 rw [crossA_eq, crossA_eq, crossA_eq]
 generalize opG m l g 0 = o0 at *
 generalize opG m l g 1 = o1 at *
 generalize opG m l g 2 = o2 at *
 generalize opG m l g 3 = o3 at *
 have e1 : A ++ catO [o0, o1, o2, o3] ++ C = (A ++ catO [o0]) ++ [o1, o2].filterMap id ++ (catO [o3] ++ C) := by
  rw [show [o0, o1, o2, o3] = [o0] ++ ([o1, o2] ++ [o3]) from rfl, catO_app, catO_app]; simp only [catO, List.append_assoc]
 have e2 : (A ++ catO [o0]) ++ [o2, o1].filterMap id ++ (catO [o3] ++ C) = A ++ [o0, o2].filterMap id ++ (catO [o1, o3] ++ C) := by
  rw [show [o0, o2] = [o0] ++ [o2] from rfl, show [o2, o1] = [o2] ++ [o1] from rfl, show [o1, o3] = [o1] ++ [o3] from rfl, catO_app, ]
  simp only [catO, List.filterMap_append, List.append_assoc]
 have e3 : A ++ [o2, o0].filterMap id ++ (catO [o1, o3] ++ C) = (A ++ catO [o2, o0]) ++ [o1, o3].filterMap id ++ C := by
  simp only [catO, List.append_assoc]
 rw [e1] at hn ⊢
 have g1 := cross_good hn (mkX_going m g)
 obtain ⟨u1, h1, n1⟩ := cross_swap hn (mkX_going m g) []
 have r1 := congrArg Prod.fst h1
 rw [fold_fst] at r1
 simp only [e2] at r1 n1
 have g2 := cross_good n1 (mkX_going m g)
 obtain ⟨u2, h2, n2⟩ := cross_swap n1 (mkX_going m g) []
 have r2 := congrArg Prod.fst h2
 rw [fold_fst] at r2
 simp only [e3] at r2 n2
 have g3 := cross_good n2 (mkX_going m g)
 rw [goodC_app, goodC_app, r1, r2]
 exact ⟨g1, g2, g3⟩
theorem crossL_good (m : MacV) (l : List Int) : ∀ (gs : List Int) (A : List Int), (A ++ gs.flatMap (orderG m l)).Nodup → goodC (A ++ gs.flatMap (orderG m l)) (gs.flatMap (crossG m l))
 | [], A, hn => trivial
 | g :: gs, A, hn => by
   simp only [List.flatMap_cons] at hn ⊢
   rw [← List.append_assoc] at hn ⊢
   rw [goodC_app]
   refine ⟨crossG_good m l g hn, ?_⟩
   obtain ⟨u1, h1, n1⟩ := crossG_row m l g hn []
   have r1 := congrArg Prod.fst h1
   rw [fold_fst] at r1
   rw [r1]
   exact crossL_good m l gs (A ++ afterG m l g) n1
theorem crossM_good (m : MacV) (l : List Int) : goodC (orderM m l) (crossM m l) := by
 have := crossL_good m l (gearsL m) [] (by simpa [orderM] using orderM_nodup m l)
 simpa [crossM, orderM] using this
theorem crossM_len (m : MacV) (l : List Int) : (crossM m l).length ≤ 3 * m.gears.toNat := by
 have key : ∀ gs : List Int, (gs.flatMap (crossG m l)).length ≤ 3 * gs.length := by
  intro gs
  induction gs with
  | nil => simp
  | cons g gs ih =>
   rw [List.flatMap_cons, List.length_append, List.length_cons]
   have : (crossG m l g).length ≤ 3 := by unfold crossG; exact Nat.le_trans (List.length_filterMap_le _ _) (by decide)
   omega
 have := key (gearsL m)
 simpa [crossM, gearsL] using this
/-- the crossing at a place of the walk. -/
theorem goodC_at {cs : List CrM} {r : List Int} (h : goodC r cs) {k : Nat} (hk : k < cs.length) : ∃ i : Nat, idxO ((cs.take k).foldl rowC r) (cs[k].going) = some (i : Int) ∧ i + 1 < ((cs.take k).foldl rowC r).length := by
 have e : cs = cs.take k ++ cs[k] :: cs.drop (k + 1) := by
  conv => lhs; rw [← List.take_append_drop k cs]
  rw [List.drop_eq_getElem_cons hk]
 rw [e, goodC_app] at h
 exact h.2.1
theorem weaveS_len (m : MacV) (st : List Int × List Int) (l : List Int) : (weaveS m st l).2.length = st.2.length + (crossM m l).length := fold_len _ _ _
end Go.Proofs.YtoebgfgihfjnnaaGreatDoor

namespace Go.Proofs.YtoebgfgihfjnnaaGreatDoor
open Go.RowKit
set_option maxHeartbeats 8000000
set_option maxRecDepth 100000

theorem steps1_any (m : MacV) (ad : Option Addr) (cap : Nat) (bm bn : Nat) (s n : Int) (w : World) (hm : w.heap[bm]? = some (.cells (mC m ad cap) 24)) (hn : w.heap[bn]? = some (.cells #[.int .i64 n] 3)) (hR : Ints w ad cap m.sw) (hg : m.gears ≤ 16) (h0 : 0 ≤ s) (h1 : s < 4 * m.gears) (n0 : 0 ≤ n) (n1 : n ≤ 9223372036854775807) :
  Calls Tryz.prog 107 #[.int .i64 s, .pointer (some ⟨bm, 0, none⟩), .pointer (some ⟨bn, 0, none⟩)] w fun r w' => r = .returned (.int .i64 (itM m s n.toNat)) ∧ Below w.heap.size w w' := by
 have CA := fun w h => after_any m ad cap s n w h hg h0 h1 n0 n1
 have HA := hid CA
 clear CA
 go_enter Tryz.func107, Tryz.ntmps107
 go_wp2_with (first | (with_reducible refine wpList_ldS (n := 4) (us := mC m ad cap) A_mach kR wU wU (by assumption) wU wU ?_) | (with_reducible refine wpList_ldB F_int wU wU hn wU ?_))
 refine (HA.out _ hR).mono ?_
 rintro e w1 ⟨rfl, b1⟩
 go_wp2_with fail
 go_ret
 exact ⟨rfl, b1⟩

/-- mapped with a function of the program, of which the places are given. -/
theorem mappedS_any (p1 p2 : Value) (g : Int → Int) (al : Option Addr) (cl : Nat) (l : List Int) (w : World) (hL : Ints w al cl l) (hn : l.length ≤ 1048576)
  (HF : ∀ x ∈ l, ∀ w', Below w.heap.size w w' → Calls Tryz.prog 107 #[.int .i64 x, p1, p2] w' fun r w'' => r = .returned (.int .i64 (g x)) ∧ Below w'.heap.size w' w'') :
  Calls Tryz.prog 69 #[.slice al l.length cl, .func (.func 107) #[] #[p1, p2]] w fun r w' => ∃ v, r = .returned v ∧ OwnI w.heap.size w' v (l.map g) ∧ Below w.heap.size w w' := by
 have hcap := hL.le
 have hmx := hL.max
 have H := hid HF
 clear HF
 have hS := (SL.nil w).nilS (α := Int) (e := 3) cIntS
 go_enter Tryz.func69, Tryz.ntmps69
 go_wp2_with fail
 go_loopw [5, 10] (fun v i wr => ∃ k : Nat, k ≤ l.length ∧ i = .int .i64 k ∧ SL w.heap.size w wr [pOwn cInt 1 3 v ((l.take k).map g)]) (fun _ i _ => l.length - (intOf i).toNat)
 case atStart => exact ⟨0, by omega, rfl, hS⟩
 case round =>
  clear hS
  obtain ⟨k, hk, rfl, hSr⟩ := hrel
  have hLr := hL.below hSr.b
  by_cases hlt : k < l.length
  ·have hmem := atD_mem hlt
   have ht := take_snoc hlt
   have hlen : ((l.take k).map g).length ≤ 1048576 := by simp; omega
   obtain ⟨x, hx⟩ : ∃ x, x = atD 0 l k := ⟨_, rfl⟩
   rw [← hx] at hmem ht
   have HX := hid hx; have HT := hid ht
   clear hx ht
   go_wp2_with ((with_reducible refine wpList_idx _ 0 E_ints F_int cInt1 wU wU (hLr) oD oD (fun _ => wU) (fun _ => ?_)); rw [← HX.out])
   refine (H.out x hmem _ hSr.b).mono ?_
   rintro e w1 ⟨rfl, b1⟩
   have hS1 := hSr.mono b1
   go_wp2_with ((with_reducible refine wpList_pushL (y := (g x)) 0 E_ints wU wU (hS1) wU cIntO ⟨rfl, rfl⟩ (by first | with_unfolding_all rfl | simp) wU (by first | omega | (simp; omega)) (by first | omega | (simp; omega)) ?_); intro v2 w2 hS2)
   exact ⟨⟨k + 1, by omega, by go_num, by rw [HT.out, List.map_append]; exact hS2⟩, by simp [intOf]; omega⟩
  ·have hkk : k = l.length := by omega
   subst hkk
   rw [List.take_length] at hSr
   go_wp2_with fail
   go_ret
   exact ⟨_, rfl, hSr.own 0 rfl, hSr.b⟩

theorem loadGo_zero (m : MacV) : ∀ (l pre : List Int), pre.Nodup → loadGo m pre l = 0 → (∀ x ∈ l, 0 ≤ x ∧ x < 4 * m.gears) ∧ (pre ++ l).Nodup
 | [], pre, hp, _ => ⟨fun x hx => absurd hx (by simp), by simpa using hp⟩
 | s :: r, pre, hp, h => by
   rw [loadGo] at h
   split at h
   · omega
   · rename_i h1
     split at h
     · omega
     · rename_i h2
       have hp2 : (pre ++ [s]).Nodup := by
         rw [List.nodup_append]
         refine ⟨hp, by simp, ?_⟩
         intro a ha b hb e
         simp at hb
         subst hb; subst e
         exact h2 ha
       obtain ⟨k1, k2⟩ := loadGo_zero m r (pre ++ [s]) hp2 h
       refine ⟨fun x hx => ?_, by simpa using k2⟩
       rcases List.mem_cons.1 hx with rfl | hx
       · omega
       · exact k1 x hx
structure LoadOk (m : MacV) (l : List Int) : Prop where
 mac : macE m = 0
 ok : MacOk m
 few : l.length ≤ 4 * m.gears
 rng : ∀ x ∈ l, 0 ≤ x ∧ x < 4 * m.gears
 nodup : l.Nodup
theorem loadE_zero {m : MacV} {l : List Int} (h : loadE m l = 0) : LoadOk m l := by
 unfold loadE at h
 split at h
 ·rename_i h1; exact absurd h h1
 ·rename_i h1
  split at h
  ·omega
  ·have h3 : macE m = 0 := by simpa using h1
   obtain ⟨a, b⟩ := loadGo_zero m l [] List.nodup_nil h
   exact ⟨h3, (macE_zero h3).1, by omega, a, by simpa using b⟩
def stepsE (m : MacV) (l : List Int) (n : Int) : Int := if loadE m l ≠ 0 then loadE m l else if n < 0 ∨ 999999999 < n then 3 else 0

theorem mSteps_any (m : MacV) (ad : Option Addr) (cap : Nat) (al : Option Addr) (cl : Nat) (l : List Int) (n : Int) (w : World) (hR : Ints w ad cap m.sw) (hL : Ints w al cl l) (HK : ChkL m ad cap al cl l) :
  Calls Tryz.prog 52 #[mV m ad cap, .slice al l.length cl, .int .i64 n] w fun r w' => ∃ v, r = .returned (.tuple #[v, .int .i64 (stepsE m l n)]) ∧ OwnI w.heap.size w' v (if stepsE m l n = 0 then l.map (fun s => itM m s n.toNat) else []) ∧ Below w.heap.size w w' := by
 have hcap := hL.le
 have hmx := hL.max
 have hS := ((SL.nil w).box (.cells (mC m ad cap) 24)).box (.cells #[.int .i64 n] 3)
 simp only [World.size_alloc] at hS
 have q1 := (hS.blk 1 rfl).1
 have q0 := (hS.blk 0 rfl).1
 have R1 := hR.below hS.b
 have L1 := hL.below hS.b
 unfold ChkL at HK
 by_cases he : loadE m l = 0
 ·have hok := loadE_zero he
  by_cases c1 : n < 0
  ·have d1 : decide (n < 0) = true := decide_eq_true c1
   have hv : stepsE m l n = 3 := by unfold stepsE; rw [if_neg (by simp [he]), if_pos (.inl c1)]
   rw [he] at HK
   rw [hv]
   clear hv he hok c1
   go_enter Tryz.func52, Tryz.ntmps52
   go_wp2_with fail
   refine wp_region_qt 10 kR kR ?_
   simp only [List.take_succ_cons, List.take_zero, List.drop_succ_cons, List.drop_zero]
   repeat (first | ((with_reducible refine wpB_loadS (n := 4) (us := mC m ad cap) A_mach kR wU wU (by assumption) wU wU ?_); (try simp only [Act.put, pA, pB, pC])) | ((with_reducible refine wpB_load F_int wU wU (by assumption) wU ?_); (try simp only [Act.put, pA, pB, pC])) | ((refine wpB_call (.int .i64 0) wU (fun w' => ?_) (fun w' hw' => HK w' (R1.below hw') (L1.below hw')) ?_); (focus (go_simp; done)); (try simp only [Act.put, pA, pB, pC])) | ((with_reducible refine wpB_when wU wU wU ?_); (try simp only [Act.put, pA, pB, pC])) | ((with_reducible refine wpQ_skip wU ?_); (try simp only [Act.put, pA, pB, pC])) |  ((with_reducible refine wpB_load (by first | exact F_int | exact F_u64s) wU wU (by assumption) wU ?_); (try simp only [Act.put, pA, pB, pC])) | ((refine wpQ_oneG ?_ wU (fun w' => ?_) ?_); rotate_left; (go_simp; rfl); (try simp only [Act.put, pA, pB, pC])))
   refine wpQuiet_nil ?_
   intro w1 hb1
   have hS2 := hS.mono hb1
   go_wp2_with (go_at_call 59; refine (mfirst_any _ _ [_, _] _ (reps_newN cIntS [_, _] 2 rfl (by decide) _ _ (by simp) rfl)).mono ?_; rw [firstE_z, firstE_head (by decide)]; rintro e w' ⟨rfl, rfl⟩)
   go_ret2
   exact ⟨_, rfl, own_nil cIntS, bal hS2.b _⟩
  have d1 : decide (n < 0) = false := decide_eq_false c1
  by_cases c2 : 999999999 < n
  ·have d2 : decide (999999999 < n) = true := decide_eq_true c2
   have hv : stepsE m l n = 3 := by unfold stepsE; rw [if_neg (by simp [he]), if_pos (.inr c2)]
   rw [he] at HK
   rw [hv]
   clear hv he hok c2
   go_enter Tryz.func52, Tryz.ntmps52
   go_wp2_with fail
   refine wp_region_qt 10 kR kR ?_
   simp only [List.take_succ_cons, List.take_zero, List.drop_succ_cons, List.drop_zero]
   repeat (first | ((with_reducible refine wpB_loadS (n := 4) (us := mC m ad cap) A_mach kR wU wU (by assumption) wU wU ?_); (try simp only [Act.put, pA, pB, pC])) | ((with_reducible refine wpB_load F_int wU wU (by assumption) wU ?_); (try simp only [Act.put, pA, pB, pC])) | ((refine wpB_call (.int .i64 0) wU (fun w' => ?_) (fun w' hw' => HK w' (R1.below hw') (L1.below hw')) ?_); (focus (go_simp; done)); (try simp only [Act.put, pA, pB, pC])) | ((with_reducible refine wpB_when wU wU wU ?_); (try simp only [Act.put, pA, pB, pC])) | ((with_reducible refine wpQ_skip wU ?_); (try simp only [Act.put, pA, pB, pC])) |  ((with_reducible refine wpB_load (by first | exact F_int | exact F_u64s) wU wU (by assumption) wU ?_); (try simp only [Act.put, pA, pB, pC])) | ((refine wpQ_oneG ?_ wU (fun w' => ?_) ?_); rotate_left; (go_simp; rfl); (try simp only [Act.put, pA, pB, pC])))
   refine wpQuiet_nil ?_
   intro w1 hb1
   have hS2 := hS.mono hb1
   go_wp2_with (go_at_call 59; refine (mfirst_any _ _ [_, _] _ (reps_newN cIntS [_, _] 2 rfl (by decide) _ _ (by simp) rfl)).mono ?_; rw [firstE_z, firstE_head (by decide)]; rintro e w' ⟨rfl, rfl⟩)
   go_ret2
   exact ⟨_, rfl, own_nil cIntS, bal hS2.b _⟩
  ·have d2 : decide (999999999 < n) = false := decide_eq_false c2
   have hv : stepsE m l n = 0 := by unfold stepsE; rw [if_neg (by simp [he]), if_neg (by omega)]
   rw [he] at HK
   rw [hv, if_pos rfl]
   have hrng := hok.rng
   have hhi := hok.ok.hi
   have hfew := hok.few
   have HRNG := hid hrng
   clear hv he hok hrng
   go_enter Tryz.func52, Tryz.ntmps52
   go_wp2_with fail
   refine wp_region_qt 10 kR kR ?_
   simp only [List.take_succ_cons, List.take_zero, List.drop_succ_cons, List.drop_zero]
   repeat (first | ((with_reducible refine wpB_loadS (n := 4) (us := mC m ad cap) A_mach kR wU wU (by assumption) wU wU ?_); (try simp only [Act.put, pA, pB, pC])) | ((with_reducible refine wpB_load F_int wU wU (by assumption) wU ?_); (try simp only [Act.put, pA, pB, pC])) | ((refine wpB_call (.int .i64 0) wU (fun w' => ?_) (fun w' hw' => HK w' (R1.below hw') (L1.below hw')) ?_); (focus (go_simp; done)); (try simp only [Act.put, pA, pB, pC])) | ((with_reducible refine wpB_when wU wU wU ?_); (try simp only [Act.put, pA, pB, pC])) | ((with_reducible refine wpQ_skip wU ?_); (try simp only [Act.put, pA, pB, pC])) |  ((with_reducible refine wpB_load (by first | exact F_int | exact F_u64s) wU wU (by assumption) wU ?_); (try simp only [Act.put, pA, pB, pC])) | ((refine wpQ_oneG ?_ wU (fun w' => ?_) ?_); rotate_left; (go_simp; rfl); (try simp only [Act.put, pA, pB, pC])))
   refine wpQuiet_nil ?_
   intro w1 hb1
   have hS2 := hS.mono hb1
   go_wp2_with (go_at_call 59; refine (mfirst_any _ _ [_, _] _ (reps_newN cIntS [_, _] 2 rfl (by decide) _ _ (by simp) rfl)).mono ?_; rw [firstE_z, firstE_z, firstE_nil]; rintro e w' ⟨rfl, rfl⟩)
   have hS4 := hS2.al (.cells #[.int .i64 0, .int .i64 0] 29)
   have q5 := (hS4.blk 1 rfl).1
   have q4 := (hS4.blk 0 rfl).1
   have t4 := hS4.b
   refine (mappedS_any _ _ (fun s => itM m s n.toNat) al cl l _ (hL.below t4) (by omega) (fun x hx w' hw' => ?_)).mono ?_
   ·refine steps1_any m ad cap _ _ x n w' ?_ ?_ ((hR.below t4).below hw') hhi (HRNG.out x hx).1 (HRNG.out x hx).2 (by omega) (by omega)
    ·exact (hw'.block _ (hS4.blk 1 rfl).2.2).trans q5
    ·exact (hw'.block _ (hS4.blk 0 rfl).2.2).trans q4
   rintro e w5 ⟨v, rfl, ho, b5⟩
   go_wp2_with fail
   go_ret2
   exact ⟨_, rfl, ho.mono t4.size, bnext t4 b5⟩
 ·obtain ⟨E, hE⟩ : ∃ E, E = loadE m l := ⟨_, rfl⟩
  have hv : stepsE m l n = E := by unfold stepsE; rw [if_pos he, hE]
  rw [← hE] at HK he
  have hne : (E != 0) = true := by simpa using he
  rw [hv, if_neg he]
  clear hv hE
  cases d1 : decide (n < 0)
  ·go_enter Tryz.func52, Tryz.ntmps52
   go_wp2_with fail
   refine wp_region_qt 10 kR kR ?_
   simp only [List.take_succ_cons, List.take_zero, List.drop_succ_cons, List.drop_zero]
   repeat (first | ((with_reducible refine wpB_loadS (n := 4) (us := mC m ad cap) A_mach kR wU wU (by assumption) wU wU ?_); (try simp only [Act.put, pA, pB, pC])) | ((with_reducible refine wpB_load F_int wU wU (by assumption) wU ?_); (try simp only [Act.put, pA, pB, pC])) | ((refine wpB_call (.int .i64 E) wU (fun w' => ?_) (fun w' hw' => HK w' (R1.below hw') (L1.below hw')) ?_); (focus (go_simp; done)); (try simp only [Act.put, pA, pB, pC])) | ((with_reducible refine wpB_when wU wU wU ?_); (try simp only [Act.put, pA, pB, pC])) | ((with_reducible refine wpQ_skip wU ?_); (try simp only [Act.put, pA, pB, pC])) |  ((with_reducible refine wpB_load (by first | exact F_int | exact F_u64s) wU wU (by assumption) wU ?_); (try simp only [Act.put, pA, pB, pC])) | ((refine wpQ_oneG ?_ wU (fun w' => ?_) ?_); rotate_left; (go_simp; rfl); (try simp only [Act.put, pA, pB, pC])))
   refine wpQuiet_nil ?_
   intro w1 hb1
   have hS2 := hS.mono hb1
   go_wp2_with (go_at_call 59; refine (mfirst_any _ _ [_, _] _ (reps_newN cIntS [_, _] 2 rfl (by decide) _ _ (by simp) rfl)).mono ?_; rw [firstE_head he]; rintro e w' ⟨rfl, rfl⟩)
   all_goals go_ret2
   all_goals exact ⟨_, rfl, own_nil cIntS, bal hS2.b _⟩
  ·go_enter Tryz.func52, Tryz.ntmps52
   go_wp2_with fail
   refine wp_region_qt 10 kR kR ?_
   simp only [List.take_succ_cons, List.take_zero, List.drop_succ_cons, List.drop_zero]
   repeat (first | ((with_reducible refine wpB_loadS (n := 4) (us := mC m ad cap) A_mach kR wU wU (by assumption) wU wU ?_); (try simp only [Act.put, pA, pB, pC])) | ((with_reducible refine wpB_load F_int wU wU (by assumption) wU ?_); (try simp only [Act.put, pA, pB, pC])) | ((refine wpB_call (.int .i64 E) wU (fun w' => ?_) (fun w' hw' => HK w' (R1.below hw') (L1.below hw')) ?_); (focus (go_simp; done)); (try simp only [Act.put, pA, pB, pC])) | ((with_reducible refine wpB_when wU wU wU ?_); (try simp only [Act.put, pA, pB, pC])) | ((with_reducible refine wpQ_skip wU ?_); (try simp only [Act.put, pA, pB, pC])) |  ((with_reducible refine wpB_load (by first | exact F_int | exact F_u64s) wU wU (by assumption) wU ?_); (try simp only [Act.put, pA, pB, pC])) | ((refine wpQ_oneG ?_ wU (fun w' => ?_) ?_); rotate_left; (go_simp; rfl); (try simp only [Act.put, pA, pB, pC])))
   refine wpQuiet_nil ?_
   intro w1 hb1
   have hS2 := hS.mono hb1
   go_wp2_with (go_at_call 59; refine (mfirst_any _ _ [_, _] _ (reps_newN cIntS [_, _] 2 rfl (by decide) _ _ (by simp) rfl)).mono ?_; rw [firstE_head he]; rintro e w' ⟨rfl, rfl⟩)
   all_goals go_ret2
   all_goals exact ⟨_, rfl, own_nil cIntS, bal hS2.b _⟩
end Go.Proofs.YtoebgfgihfjnnaaGreatDoor

namespace Go.Proofs.YtoebgfgihfjnnaaGreatDoor
set_option maxRecDepth 100000

theorem befo_irrefl (a : Nat × Int) : befo a a = false := by simp [befo]
theorem befo_false {a b : Nat × Int} : befo a b = false ↔ b.1 < a.1 ∨ (b.1 = a.1 ∧ b.2 ≤ a.2) := by
 unfold befo
 simp only [Bool.or_eq_false_iff, Bool.and_eq_false_imp, decide_eq_false_iff_not, decide_eq_true_eq]
 constructor
 ·rintro ⟨h1, h2⟩
  by_cases e : a.1 = b.1
  ·right; have := h2 e; omega
  ·left; omega
 ·rintro (h | ⟨h1, h2⟩)
  ·exact ⟨by omega, fun e => by omega⟩
  ·exact ⟨by omega, fun _ => by omega⟩
theorem foldF_spec (m : MacV) : ∀ (ps : List (Int × Int)) (acc : Option (Nat × Int)),
  (ps.foldl (fun b p => bestS b (meetM m p.1 p.2)) acc = none → acc = none ∧ ∀ p ∈ ps, meetM m p.1 p.2 = none) ∧
  (∀ b, ps.foldl (fun b p => bestS b (meetM m p.1 p.2)) acc = some b → (∀ a, acc = some a → befo a b = false) ∧ (∀ p ∈ ps, ∀ v, meetM m p.1 p.2 = some v → befo v b = false) ∧ (acc = some b ∨ ∃ p ∈ ps, meetM m p.1 p.2 = some b))
 | [], acc => ⟨fun h => ⟨h, fun p hp => absurd hp (by simp)⟩, fun b h => ⟨fun a ha => by rw [List.foldl_nil] at h; rw [ha] at h; cases h; exact befo_irrefl _, fun p hp => absurd hp (by simp), .inl h⟩⟩
 | q :: ps, acc => by
   rw [List.foldl_cons]
   obtain ⟨h1, h2⟩ := foldF_spec m ps (bestS acc (meetM m q.1 q.2))
   constructor
   · intro h
     obtain ⟨k1, k2⟩ := h1 h
     cases hm : meetM m q.1 q.2 with
     | none =>
       rw [hm] at k1
       exact ⟨k1, fun p hp => by rcases List.mem_cons.1 hp with rfl | hp; exact hm; exact k2 p hp⟩
     | some v =>
       rw [hm] at k1
       cases acc with
       | none => cases k1
       | some w => unfold bestS at k1; dsimp only at k1; split at k1 <;> cases k1
   · intro b h
     obtain ⟨k1, k2, k3⟩ := h2 b h
     cases hm : meetM m q.1 q.2 with
     | none =>
       rw [hm] at k1 k3
       refine ⟨k1, fun p hp v hv => ?_, ?_⟩
       · rcases List.mem_cons.1 hp with rfl | hp
         · rw [hm] at hv; cases hv
         · exact k2 p hp v hv
       · rcases k3 with k3 | ⟨p, hp, e⟩
         · exact .inl k3
         · exact .inr ⟨p, List.mem_cons_of_mem _ hp, e⟩
     | some v =>
       rw [hm] at k1 k3
       have low : ∀ c, bestS acc (some v) = some c → (∀ a, acc = some a → befo a c = false) ∧ befo v c = false ∧ (acc = some c ∨ v = c) := by
         intro c hc
         cases acc with
         | none => cases hc; exact ⟨fun a ha => (by cases ha), befo_irrefl _, .inr rfl⟩
         | some w =>
           unfold bestS at hc
           dsimp only at hc
           split at hc
           · rename_i hb
             cases hc
             refine ⟨fun a ha => ?_, befo_irrefl _, .inr rfl⟩
             cases ha
             unfold befo at hb
             simp only [Bool.or_eq_true, Bool.and_eq_true, decide_eq_true_eq] at hb
             rw [befo_false]; omega
           · rename_i hb
             cases hc
             exact ⟨fun a ha => (by cases ha; exact befo_irrefl _), by simpa using hb, .inl rfl⟩
       obtain ⟨c, hc⟩ : ∃ c, bestS acc (some v) = some c := by
         cases acc with
         | none => exact ⟨v, rfl⟩
         | some w => unfold bestS; dsimp only; split <;> exact ⟨_, rfl⟩
       obtain ⟨l1, l2, l3⟩ := low c hc
       have kc := k1 c hc
       have tr : ∀ a, befo a c = false → befo a b = false := by
         intro a ha
         rw [befo_false] at ha kc ⊢
         omega
       refine ⟨fun a ha => tr a (l1 a ha), fun p hp v' hv' => ?_, ?_⟩
       · rcases List.mem_cons.1 hp with rfl | hp
         · rw [hm] at hv'; cases hv'; exact tr _ l2
         · exact k2 p hp v' hv'
       · rcases k3 with k3 | ⟨p, hp, e⟩
         · rw [hc] at k3
           cases k3
           rcases l3 with l3 | l3
           · exact .inl l3
           · exact .inr ⟨q, List.mem_cons_self, by rw [hm, l3]⟩
         · exact .inr ⟨p, List.mem_cons_of_mem _ hp, e⟩
theorem pairsTo_mem {l : List Int} {p : Int × Int} {n : Nat} (hn : n ≤ l.length) : p ∈ pairsTo l n ↔ ∃ i j : Nat, j < i ∧ i < n ∧ p = (atD 0 l i, atD 0 l j) := by
 unfold pairsTo
 simp only [List.mem_flatMap, List.mem_range, List.mem_map]
 constructor
 ·rintro ⟨i, hi, b, hb, rfl⟩
  obtain ⟨j, hj, e⟩ := List.mem_iff_getElem.1 hb
  rw [List.length_take] at hj
  refine ⟨i, j, by omega, hi, ?_⟩
  rw [List.getElem_take] at e
  have hjl : j < l.length := by omega
  rw [← e]
  simp [atD, hjl]
 ·rintro ⟨i, j, hji, hi, rfl⟩
  have hjl : j < l.length := by omega
  refine ⟨i, hi, atD 0 l j, ?_, rfl⟩
  refine List.mem_iff_getElem.2 ⟨j, by simp; omega, ?_⟩
  simp [atD, hjl]
theorem hitM_symm (m : MacV) (x y : Int) : hitM m x y = hitM m y x := by
 unfold hitM
 by_cases e : placeM m x = placeM m y
 ·rw [e]
 ·rw [decide_eq_false e, decide_eq_false (show ¬ placeM m y = placeM m x from fun h => e h.symm), Bool.and_false, Bool.and_false]
/-- no meeting up to some steps. -/
theorem no_meets {m : MacV} {l : List Int} {n : Int} (h : meetsM m l n = false) {k : Nat} (hk : (k : Int) ≤ n) : NoHit m (l.map fun s => itM m s k) := by
 have key : ∀ i j : Nat, j < i → i < l.length → hitM m (itM m (atD 0 l i) k) (itM m (atD 0 l j) k) = false := by
  intro i j hji hi
  have hsp := meetM_spec m (atD 0 l i) (atD 0 l j)
  have hp := (pairsTo_mem (l := l) (n := l.length) (Nat.le_refl _)).2 ⟨i, j, hji, hi, rfl⟩
  obtain ⟨s1, s2⟩ := foldF_spec m (pairsTo l l.length) none
  cases hm : meetM m (atD 0 l i) (atD 0 l j) with
  | none => rw [hm] at hsp; exact hsp k
  | some v =>
   rw [hm] at hsp
   refine hsp.2.2 k ?_
   unfold meetsM at h
   cases hf : firstM m l with
   | none =>
    have := (s1 hf).2 _ hp
    rw [hm] at this; cases this
   | some b =>
    rw [hf] at h
    have hb := (s2 b hf).2.1 _ hp v hm
    rw [befo_false] at hb
    simp only [decide_eq_false_iff_not] at h
    omega
 intro x hx y hy hxy
 obtain ⟨a, ha, rfl⟩ := List.mem_map.1 hx
 obtain ⟨b, hb, rfl⟩ := List.mem_map.1 hy
 obtain ⟨i, hi, rfl⟩ := List.mem_iff_getElem.1 ha
 obtain ⟨j, hj, rfl⟩ := List.mem_iff_getElem.1 hb
 have ei : atD 0 l (i : Int) = l[i] := by simp [atD, hi]
 have ej : atD 0 l (j : Int) = l[j] := by simp [atD, hj]
 rcases Nat.lt_trichotomy j i with hl | hl | hl
 ·rw [← ei, ← ej]; exact key i j hl hi
 ·subst hl; exact absurd rfl hxy
 ·rw [← ei, ← ej, hitM_symm]; exact key j i hl hj
/-- the carriers after some steps. -/
noncomputable def atL (m : MacV) (l : List Int) (k : Nat) : List Int := l.map fun s => itM m s k
theorem atL_succ {m : MacV} {l : List Int} (hl : ∀ x ∈ l, 0 ≤ x ∧ x < 4 * m.gears) (k : Nat) : stepL m (atL m l k) = atL m l (k + 1) := by
 unfold atL stepL
 rw [List.map_map]
 exact List.map_congr_left (fun x hx => (itM_succ (hl x hx).1 (hl x hx).2 k).symm)
theorem atL_rng {m : MacV} {l : List Int} (hl : ∀ x ∈ l, 0 ≤ x ∧ x < 4 * m.gears) (k : Nat) : ∀ x ∈ atL m l k, 0 ≤ x ∧ x < 4 * m.gears := by
 intro x hx
 obtain ⟨y, hy, rfl⟩ := List.mem_map.1 hx
 exact itM_rng (hl y hy).1 (hl y hy).2 k
/-- row and letters after some steps. -/
noncomputable def wvM (m : MacV) (l : List Int) : Nat → List Int × List Int
 | 0 => (orderM m l, [])
 | k + 1 => weaveS m (wvM m l k) (atL m l k)
theorem wvM_row {m : MacV} {l : List Int} (hr : m.ring = false) (hl : ∀ x ∈ l, 0 ≤ x ∧ x < 4 * m.gears) {n : Int} (h : meetsM m l n = false) : ∀ k : Nat, (k : Int) ≤ n → (wvM m l k).1 = orderM m (atL m l k)
 | 0, _ => by
   show orderM m l = _
   have : atL m l 0 = l := by
     unfold atL
     conv => rhs; rw [← List.map_id l]
     exact List.map_congr_left (fun x _ => rfl)
   rw [this]
 | k + 1, hk => by
   have ih := wvM_row hr hl h k (by omega)
   obtain ⟨out', h1, _⟩ := weaveS_row m (atL m l k) (wvM m l k).2
   rw [wvM]
   rw [show wvM m l k = (orderM m (atL m l k), (wvM m l k).2) from Prod.ext ih rfl] at *
   rw [h1]
   have hno := no_meets h hk
   rw [show l.map (fun s => itM m s (k + 1)) = atL m l (k + 1) from rfl, ← atL_succ hl k] at hno
   show afterM m (atL m l k) = _
   rw [order_step hr (atL_rng hl k) hno, atL_succ hl k]
theorem wvM_mono (m : MacV) (l : List Int) : ∀ {j k : Nat}, j ≤ k → (wvM m l j).2.length ≤ (wvM m l k).2.length := by
 intro j k hjk
 induction hjk with
 | refl => exact Nat.le_refl _
 | step _ ih => rw [wvM, weaveS_len]; omega
theorem orderM_len (m : MacV) (l : List Int) : (orderM m l).length ≤ 4 * m.gears.toNat := by
 rw [orderM_seq]
 refine Nat.le_trans (List.length_filterMap_le _ _) ?_
 have key : ∀ gs : List Int, (gs.flatMap (slotsG m)).length = 4 * gs.length := by
  intro gs
  induction gs with
  | nil => rfl
  | cons g gs ih => rw [List.flatMap_cons, List.length_append, ih, slotsG_eq, List.length_cons]; simp only [List.length_cons, List.length_nil]; omega
 rw [key]
 simp [gearsL]
/-- the error ahead of a word. -/
noncomputable def weaveE (m : MacV) (l : List Int) (n : Int) : Int := if loadE m l ≠ 0 then loadE m l else if m.ring = true then 13 else if 12 < l.length then 5 else if n < 0 ∨ 1000 < n then 3 else if meetsM m l n = true then 16 else 0
theorem weaveE_zero {m : MacV} {l : List Int} {n : Int} (h : weaveE m l n = 0) : LoadOk m l ∧ m.ring = false ∧ l.length ≤ 12 ∧ 0 ≤ n ∧ n ≤ 1000 ∧ meetsM m l n = false := by
 unfold weaveE at h
 split at h
 ·rename_i h1; exact absurd h h1
 ·rename_i h1
  split at h
  ·omega
  ·rename_i h2
   split at h
   ·omega
   ·rename_i h3
    split at h
    ·omega
    ·rename_i h4
     split at h
     ·omega
     ·rename_i h5
      exact ⟨loadE_zero (by simpa using h1), by simpa using h2, by omega, by omega, by omega, by simpa using h5⟩
end Go.Proofs.YtoebgfgihfjnnaaGreatDoor

namespace Go.Proofs.YtoebgfgihfjnnaaGreatDoor
open Go.RowKit
set_option maxHeartbeats 8000000
set_option maxRecDepth 100000

/-- steps, place and error of the first meeting. -/
noncomputable def meet3 (m : MacV) (l : List Int) : Nat × Int × Int := if loadE m l ≠ 0 then (0, 0, loadE m l) else match firstM m l with
 | none => (0, 0, 7)
 | some x => (x.1, x.2, 0)
noncomputable def accE (m : MacV) (l : List Int) : Int := if loadE m l ≠ 0 then loadE m l else if (firstM m l).isSome then 16 else 0

theorem mMeet_any (m : MacV) (ad : Option Addr) (cap : Nat) (al : Option Addr) (cl : Nat) (l : List Int) (w : World) (hR : Ints w ad cap m.sw) (hL : Ints w al cl l) (HK : ChkL m ad cap al cl l) :
  Calls Tryz.prog 49 #[mV m ad cap, .slice al l.length cl] w fun r w' => r = .returned (.tuple #[.int .i64 (meet3 m l).1, .int .i64 (meet3 m l).2.1, .int .i64 (meet3 m l).2.2]) ∧ Below w.heap.size w w' := by
 have hS := (SL.nil w).box (.cells (mC m ad cap) 24)
 have R1 := hR.below hS.b
 have L1 := hL.below hS.b
 unfold ChkL at HK
 by_cases he : loadE m l = 0
 ·have hok := loadE_zero he
  have CF := fun w h h2 => firstB_any m ad al cap cl l w h h2 hok.ok.hi hok.rng
  have hv : meet3 m l = match firstM m l with | none => (0, 0, 7) | some x => (x.1, x.2, 0) := by unfold meet3; rw [if_neg (by simp [he])]
  rw [hv]
  rw [he] at HK
  have HC := hid HK
  clear hv HK he hok
  cases hf : firstM m l with
  | none =>
   rw [hf] at CF
   have HF := hid CF
   clear CF hf
   go_enter Tryz.func49, Tryz.ntmps49
   go_wp2_with fail
   refine (HC.out _ R1 L1).mono ?_
   rintro e w1 ⟨rfl, b1⟩
   have hS1 := hS.mono b1
   have q1 := (hS1.blk 0 rfl).1
   go_wp2_with (with_reducible refine wpList_ldS (n := 4) (us := mC m ad cap) A_mach kR wU wU (by assumption) wU wU ?_)
   refine (HF.out _ (hR.below hS1.b) (hL.below hS1.b)).mono ?_
   rintro e w2 ⟨rfl, b2⟩
   have hS2 := (hS1.mono b2).box (.cells #[.int .i64 0, .int .i64 0] 137)
   clear q1
   go_wp2_with ((with_reducible refine wpList_stoR (us := #[.int .i64 0, .int .i64 0]) 0 wU wU (hS2) wU kR wU wU ?_); intro w3 hS3)
   have q3 := (hS3.blk 0 rfl).1
   refine wp_region_q kR kR ?_
   repeat (first | ((with_reducible refine wpB_load F_int wU wU (by assumption) wU ?_); (try simp only [Act.put, pA, pB, pC])) | ((with_reducible refine wpB_when wU wU wU ?_); (try simp only [Act.put, pA, pB, pC])) | ((with_reducible refine wpQ_skip wU ?_); (try simp only [Act.put, pA, pB, pC])) |  ((with_reducible refine wpB_load (by first | exact F_int | exact F_u64s) wU wU (by assumption) wU ?_); (try simp only [Act.put, pA, pB, pC])) | ((refine wpQ_oneG ?_ wU (fun w' => ?_) ?_); rotate_left; (go_simp; rfl); (try simp only [Act.put, pA, pB, pC])))
   refine wpQuiet_nil ?_
   intro w4 hb4
   go_wp2_with fail
   go_ret3
   exact ⟨rfl, bnext hS3.b hb4⟩
  | some v =>
   rw [hf] at CF
   have HF := hid CF
   clear CF hf
   go_enter Tryz.func49, Tryz.ntmps49
   go_wp2_with fail
   refine (HC.out _ R1 L1).mono ?_
   rintro e w1 ⟨rfl, b1⟩
   have hS1 := hS.mono b1
   have q1 := (hS1.blk 0 rfl).1
   go_wp2_with (with_reducible refine wpList_ldS (n := 4) (us := mC m ad cap) A_mach kR wU wU (by assumption) wU wU ?_)
   refine (HF.out _ (hR.below hS1.b) (hL.below hS1.b)).mono ?_
   rintro e w2 ⟨rfl, b2⟩
   have hS2 := (hS1.mono b2).box (.cells #[.int .i64 0, .int .i64 0] 137)
   clear q1
   go_wp2_with ((with_reducible refine wpList_stoR (us := meC v) 0 wU wU (hS2) wU kR wU wU ?_); intro w3 hS3)
   have q3 := (hS3.blk 0 rfl).1
   refine wp_region_q kR kR ?_
   repeat (first | ((with_reducible refine wpB_load F_int wU wU (by assumption) wU ?_); (try simp only [Act.put, pA, pB, pC])) | ((with_reducible refine wpB_when wU wU wU ?_); (try simp only [Act.put, pA, pB, pC])) | ((with_reducible refine wpQ_skip wU ?_); (try simp only [Act.put, pA, pB, pC])) |  ((with_reducible refine wpB_load (by first | exact F_int | exact F_u64s) wU wU (by assumption) wU ?_); (try simp only [Act.put, pA, pB, pC])) | ((refine wpQ_oneG ?_ wU (fun w' => ?_) ?_); rotate_left; (go_simp; rfl); (try simp only [Act.put, pA, pB, pC])))
   refine wpQuiet_nil ?_
   intro w4 hb4
   go_wp2_with fail
   go_ret3
   exact ⟨rfl, bnext hS3.b hb4⟩
 ·obtain ⟨E, hE⟩ : ∃ E, E = loadE m l := ⟨_, rfl⟩
  have hv : meet3 m l = (0, 0, E) := by unfold meet3; rw [if_pos he, hE]
  rw [← hE] at HK he
  have hne : (E != 0) = true := by simpa using he
  rw [hv]
  have HC := hid HK
  clear hv hE HK
  go_enter Tryz.func49, Tryz.ntmps49
  go_wp2_with fail
  refine (HC.out _ R1 L1).mono ?_
  rintro e w1 ⟨rfl, b1⟩
  have hS1 := hS.mono b1
  go_wp2_with fail
  go_ret3
  exact ⟨rfl, hS1.b⟩

theorem mAccept_any (m : MacV) (ad : Option Addr) (cap : Nat) (al : Option Addr) (cl : Nat) (l : List Int) (w : World) (hR : Ints w ad cap m.sw) (hL : Ints w al cl l) (HK : ChkL m ad cap al cl l) :
  Calls Tryz.prog 50 #[mV m ad cap, .slice al l.length cl] w fun r w' => r = .returned (.int .i64 (accE m l)) ∧ Below w.heap.size w w' := by
 have hS := (SL.nil w).box (.cells (mC m ad cap) 24)
 have R1 := hR.below hS.b
 have L1 := hL.below hS.b
 unfold ChkL at HK
 by_cases he : loadE m l = 0
 ·have hok := loadE_zero he
  have CF := fun w h h2 => firstB_any m ad al cap cl l w h h2 hok.ok.hi hok.rng
  have hv : accE m l = if (firstM m l).isSome then 16 else 0 := by unfold accE; rw [if_neg (by simp [he])]
  rw [hv]
  rw [he] at HK
  have HC := hid HK
  clear hv HK he hok
  cases hf : firstM m l with
  | none =>
   rw [hf] at CF
   have HF := hid CF
   clear CF hf
   go_enter Tryz.func50, Tryz.ntmps50
   go_wp2_with fail
   refine (HC.out _ R1 L1).mono ?_
   rintro e w1 ⟨rfl, b1⟩
   have hS1 := hS.mono b1
   have q1 := (hS1.blk 0 rfl).1
   go_wp2_with (with_reducible refine wpList_ldS (n := 4) (us := mC m ad cap) A_mach kR wU wU (by assumption) wU wU ?_)
   refine (HF.out _ (hR.below hS1.b) (hL.below hS1.b)).mono ?_
   rintro e w2 ⟨rfl, b2⟩
   have hS2 := (hS1.mono b2).box (.cells #[.int .i64 0, .int .i64 0] 137)
   clear q1
   go_wp2_with (first | ((with_reducible refine wpList_stoR (us := #[.int .i64 0, .int .i64 0]) 0 wU wU (hS2) wU kR wU wU ?_); intro w3 hS3) | (go_at_call 61; refine (mwhen_any _ _ _).mono ?_; rintro e w' ⟨rfl, rfl⟩))
   go_ret
   exact ⟨rfl, hS3.b⟩
  | some v =>
   rw [hf] at CF
   have HF := hid CF
   clear CF hf
   go_enter Tryz.func50, Tryz.ntmps50
   go_wp2_with fail
   refine (HC.out _ R1 L1).mono ?_
   rintro e w1 ⟨rfl, b1⟩
   have hS1 := hS.mono b1
   have q1 := (hS1.blk 0 rfl).1
   go_wp2_with (with_reducible refine wpList_ldS (n := 4) (us := mC m ad cap) A_mach kR wU wU (by assumption) wU wU ?_)
   refine (HF.out _ (hR.below hS1.b) (hL.below hS1.b)).mono ?_
   rintro e w2 ⟨rfl, b2⟩
   have hS2 := (hS1.mono b2).box (.cells #[.int .i64 0, .int .i64 0] 137)
   clear q1
   go_wp2_with (first | ((with_reducible refine wpList_stoR (us := meC v) 0 wU wU (hS2) wU kR wU wU ?_); intro w3 hS3) | (go_at_call 61; refine (mwhen_any _ _ _).mono ?_; rintro e w' ⟨rfl, rfl⟩))
   go_ret
   exact ⟨rfl, hS3.b⟩
 ·obtain ⟨E, hE⟩ : ∃ E, E = loadE m l := ⟨_, rfl⟩
  have hv : accE m l = E := by unfold accE; rw [if_pos he, hE]
  rw [← hE] at HK he
  have hne : (E != 0) = true := by simpa using he
  rw [hv]
  have HC := hid HK
  clear hv hE HK
  go_enter Tryz.func50, Tryz.ntmps50
  go_wp2_with fail
  refine (HC.out _ R1 L1).mono ?_
  rintro e w1 ⟨rfl, b1⟩
  have hS1 := hS.mono b1
  go_wp2_with fail
  go_ret
  exact ⟨rfl, hS1.b⟩
end Go.Proofs.YtoebgfgihfjnnaaGreatDoor

namespace Go.Proofs.YtoebgfgihfjnnaaGreatDoor
set_option maxRecDepth 100000
theorem other_hit {m : MacV} {x y : Int} (x0 : 0 ≤ x) (x1 : x < 4 * m.gears) (y0 : 0 ≤ y) (y1 : y < 4 * m.gears) (hne : y ≠ x) : (otherM m x == y) = hitM m x y := by
 by_cases h : 0 ≤ placeM m x ∧ sharedM m (placeM m x) = true
 ·obtain ⟨o0, o1, o2, o3⟩ := other_is x0 x1 h.1 h.2
  unfold hitM
  rw [h.2, decide_eq_true h.1, Bool.true_and, Bool.true_and]
  by_cases e : placeM m x = placeM m y
  ·rw [decide_eq_true e]
   have := other_only x0 x1 y0 y1 h.1 h.2 hne e.symm
   simpa using this.symm
  ·rw [decide_eq_false e]
   have : otherM m x ≠ y := fun h2 => e (by rw [← h2, o3])
   simpa using this
 ·have h2 : (decide (0 ≤ placeM m x) && sharedM m (placeM m x)) = false := by
   rw [Bool.and_eq_false_iff]
   by_cases h0 : 0 ≤ placeM m x
   ·exact .inr (by simpa using fun h3 => h ⟨h0, h3⟩)
   ·exact .inl (decide_eq_false h0)
  unfold hitM otherM
  rw [h2, Bool.false_and]
  simp
  omega
/-- the least value that is not negative, or -1. -/
def minF (f : Int × Int → Int) (ps : List (Int × Int)) : Int := ps.foldl (fun b p => if 0 ≤ f p ∧ (b < 0 ∨ f p < b) then f p else b) (-1)
theorem minF_snoc (f : Int × Int → Int) (ps : List (Int × Int)) (p : Int × Int) : minF f (ps ++ [p]) = if 0 ≤ f p ∧ (minF f ps < 0 ∨ f p < minF f ps) then f p else minF f ps := by unfold minF; rw [List.foldl_append]; rfl
theorem minF_spec (f : Int × Int → Int) : ∀ ps : List (Int × Int), (minF f ps = -1 ∧ ∀ p ∈ ps, f p < 0) ∨ (0 ≤ minF f ps ∧ (∃ p ∈ ps, f p = minF f ps) ∧ ∀ p ∈ ps, 0 ≤ f p → minF f ps ≤ f p) := by
 suffices h : ∀ ps : List (Int × Int), (minF f ps.reverse = -1 ∧ ∀ p ∈ ps, f p < 0) ∨ (0 ≤ minF f ps.reverse ∧ (∃ p ∈ ps, f p = minF f ps.reverse) ∧ ∀ p ∈ ps, 0 ≤ f p → minF f ps.reverse ≤ f p) by
  intro ps
  have := h ps.reverse
  rw [List.reverse_reverse] at this
  simpa using this
 intro ps
 induction ps with
 | nil => exact .inl ⟨rfl, fun p hp => by cases hp⟩
 | cons q r ih =>
  rw [List.reverse_cons, minF_snoc]
  generalize minF f r.reverse = b at ih ⊢
  by_cases hc : 0 ≤ f q ∧ (b < 0 ∨ f q < b)
  ·rw [if_pos hc]
   refine .inr ⟨hc.1, ⟨q, List.mem_cons_self, rfl⟩, fun p hp h0 => ?_⟩
   rcases List.mem_cons.1 hp with rfl | hp
   ·exact Int.le_refl _
   ·rcases ih with ⟨_, h2⟩ | ⟨h1, _, h3⟩
    ·have := h2 p hp; omega
    ·have := h3 p hp h0; omega
  ·rw [if_neg hc]
   rcases ih with ⟨h1, h2⟩ | ⟨h1, ⟨p, hp, e⟩, h3⟩
   ·refine .inl ⟨h1, fun p hp => ?_⟩
    rcases List.mem_cons.1 hp with rfl | hp
    ·omega
    ·exact h2 p hp
   ·refine .inr ⟨h1, ⟨p, List.mem_cons_of_mem _ hp, e⟩, fun p hp h0 => ?_⟩
    rcases List.mem_cons.1 hp with rfl | hp
    ·omega
    ·exact h3 p hp h0
/-- the steps up to the first meeting of two, or -1. -/
noncomputable def pairN (m : MacV) (p : Int × Int) : Int := match meetM m p.1 p.2 with | some v => (v.1 : Int) | none => -1
/-- the place at which two meet now, or -1. -/
def hereN (m : MacV) (p : Int × Int) : Int := if hitM m p.1 p.2 then placeM m p.1 else -1
theorem hit_place {m : MacV} {x y : Int} (h : hitM m x y = true) : 0 ≤ placeM m x := by
 unfold hitM at h
 simp only [Bool.and_eq_true, decide_eq_true_eq] at h
 exact h.1.1
theorem hereN_nonneg {m : MacV} {p : Int × Int} : 0 ≤ hereN m p ↔ hitM m p.1 p.2 = true := by
 unfold hereN
 split
 ·rename_i h; exact ⟨fun _ => h, fun _ => hit_place h⟩
 ·rename_i h; exact ⟨fun h2 => by omega, fun h2 => absurd h2 h⟩
noncomputable def nowM (m : MacV) (l : List Int) : Int := minF (hereN m) (pairsTo l l.length)
noncomputable def meetN (m : MacV) (l : List Int) : Int := minF (pairN m) (pairsTo l l.length)
theorem pairN_nonneg {m : MacV} {p : Int × Int} : 0 ≤ pairN m p ↔ meetM m p.1 p.2 ≠ none := by
 unfold pairN
 cases meetM m p.1 p.2 with
 | none => simp
 | some v => simp
theorem pairsTo_map {l : List Int} {f : Int → Int} {p : Int × Int} : p ∈ pairsTo (l.map f) (l.map f).length ↔ ∃ q ∈ pairsTo l l.length, p = (f q.1, f q.2) := by
 have at_map : ∀ i : Nat, i < l.length → atD 0 (l.map f) i = f (atD 0 l i) := fun i hi => by simp [atD, hi]
 rw [pairsTo_mem (Nat.le_refl _)]
 constructor
 ·rintro ⟨i, j, hji, hi, rfl⟩
  rw [List.length_map] at hi
  refine ⟨(atD 0 l i, atD 0 l j), (pairsTo_mem (Nat.le_refl _)).2 ⟨i, j, hji, hi, rfl⟩, ?_⟩
  rw [at_map i hi, at_map j (by omega)]
 ·rintro ⟨q, hq, rfl⟩
  obtain ⟨i, j, hji, hi, rfl⟩ := (pairsTo_mem (Nat.le_refl _)).1 hq
  refine ⟨i, j, hji, by rw [List.length_map]; exact hi, ?_⟩
  rw [at_map i hi, at_map j (by omega)]
theorem meet_refN {m : MacV} {l : List Int} (h : firstM m l = none) : meetN m l = -1 := by
 obtain ⟨s1, _⟩ := foldF_spec m (pairsTo l l.length) none
 have k := (s1 h).2
 rcases minF_spec (pairN m) (pairsTo l l.length) with h1 | ⟨h1, ⟨p, hp, e⟩, _⟩
 ·exact h1.1
 ·exfalso
  rw [← e, pairN_nonneg] at h1
  exact h1 (k p hp)
theorem meet_refS {m : MacV} {l : List Int} {n : Nat} {pl : Int} (h : firstM m l = some (n, pl)) : meetN m l = n ∧ nowM m (l.map fun s => itM m s n) = pl := by
 obtain ⟨_, s2⟩ := foldF_spec m (pairsTo l l.length) none
 obtain ⟨_, k2, k3⟩ := s2 _ h
 obtain ⟨q, hq, hqm⟩ : ∃ p ∈ pairsTo l l.length, meetM m p.1 p.2 = some (n, pl) := by
  rcases k3 with k3 | k3
  ·cases k3
  ·exact k3
 have hN : meetN m l = n := by
  have hqn : pairN m q = n := by unfold pairN; rw [hqm]
  rcases minF_spec (pairN m) (pairsTo l l.length) with h1 | ⟨h1, ⟨p, hp, e⟩, h3⟩
  ·have := h1.2 q hq; omega
  ·have a := h3 q hq (by omega)
   rw [hqn] at a
   refine Int.le_antisymm a ?_
   rw [← e] at h1
   have h1' := pairN_nonneg.1 h1
   cases hv : meetM m p.1 p.2 with
   | none => exact absurd hv h1'
   | some v =>
    have b := k2 p hp v hv
    rw [befo_false] at b
    have ev : pairN m p = v.1 := by unfold pairN; rw [hv]
    show (n : Int) ≤ minF (pairN m) (pairsTo l l.length)
    rw [← e, ev]
    dsimp only at b
    omega
 refine ⟨hN, ?_⟩
 have hsp := meetM_spec m q.1 q.2
 rw [hqm] at hsp
 obtain ⟨g1, g2, g3⟩ := hsp
 have hqh : hereN m (itM m q.1 n, itM m q.2 n) = pl := by unfold hereN; rw [if_pos g1, g2]
 have hpl0 : 0 ≤ pl := by rw [g2]; exact hit_place g1
 have hqm2 := (pairsTo_map (f := fun s => itM m s n)).2 ⟨q, hq, rfl⟩
 rcases minF_spec (hereN m) (pairsTo (l.map fun s => itM m s n) (l.map fun s => itM m s n).length) with h1 | ⟨h1, ⟨p, hp, e⟩, h3⟩
 ·have := h1.2 _ hqm2; omega
 ·have a := h3 _ hqm2 (by rw [hqh]; exact hpl0)
  rw [hqh] at a
  refine Int.le_antisymm a ?_
  show pl ≤ minF (hereN m) _
  obtain ⟨p0, hp0, rfl⟩ := pairsTo_map.1 hp
  rw [← e] at h1
  have hh := hereN_nonneg.1 h1
  dsimp only at hh
  cases hv : meetM m p0.1 p0.2 with
  | none =>
   have hs := meetM_spec m p0.1 p0.2
   rw [hv] at hs
   have := hs n
   rw [this] at hh; cases hh
  | some v =>
   have b := k2 p0 hp0 v hv
   have hs := meetM_spec m p0.1 p0.2
   rw [hv] at hs
   obtain ⟨t1, t2, t3⟩ := hs
   have hvn : ¬ n < v.1 := fun hlt => by rw [t3 n hlt] at hh; cases hh
   rw [befo_false] at b
   dsimp only at b
   have hvn2 : v.1 = n := by omega
   have hpv : pl ≤ v.2 := by omega
   rw [← e]
   unfold hereN
   rw [if_pos hh]
   dsimp only
   rw [hvn2] at t2
   rw [← t2]
   exact hpv
end Go.Proofs.YtoebgfgihfjnnaaGreatDoor

namespace Go.Proofs.YtoebgfgihfjnnaaGreatDoor
open Go.RowKit
set_option maxHeartbeats 4000000
set_option maxRecDepth 100000
theorem mapStep {l : List Int} (f : Int → Int) {k : Nat} (h : k < l.length) : (l.map f).take (k + 1) = (l.map f).take k ++ [f (atD 0 l k)] := by
 have e : atD 0 l k = l[k] := by simp [atD, h]
 rw [List.take_succ_eq_append_getElem (by simpa using h), e]
 simp
theorem atD_in {l : List Int} {P : Int → Prop} (h : ∀ x ∈ l, P x) {k : Nat} (hk : k < l.length) : P (atD 0 l k) := by
 have e : atD 0 l k = l[k] := by simp [atD, hk]
 rw [e]; exact h _ (List.getElem_mem hk)
theorem rSteps_any (m : MacV) (ad : Option Addr) (cap : Nat) (al : Option Addr) (cl : Nat) (l : List Int) (K : Nat) (w : World) (hR : Ints w ad cap m.sw) (hL : Ints w al cl l) (hg0 : 1 ≤ m.gears) (hg : m.gears ≤ 16) (hl : ∀ x ∈ l, 0 ≤ x ∧ x < 4 * m.gears) (hn : l.length ≤ 64) (hK : K ≤ 9223372036854775000) :
  Calls Tryz.prog 80 #[mV m ad cap, .slice al l.length cl, .int .i64 K] w fun r w' => ∃ v, r = .returned v ∧ OwnI w.heap.size w' v (l.map fun s => itM m s K) ∧ Below w.heap.size w w' := by
 have hcap := hL.le
 have hmx := hL.max
 have hS := (SL.nil w).box (.cells (mC m ad cap) 25)
 have CP := fun w h => rPerm_any m ad cap w h hg0 hg
 have hpl : (permM m).length ≤ 64 := by rw [permM_len]; omega
 have CW := fun a c w h => rPower_any a c (permM m) K w h (permM_isP m) hpl hK
 have hpw : ∀ k : Nat, k < l.length → 0 ≤ atD 0 l k ∧ atD 0 l k < (powP (permM m) K).length ∧ atD 0 (powP (permM m) K) (atD 0 l k) = itM m (atD 0 l k) K := fun k hk => by
  have h1 := atD_in hl hk
  rw [powP_len, permM_len]
  exact ⟨h1.1, by omega, powP_at h1.1 (by rw [permM_len]; omega)⟩
 have hst := fun (k : Nat) (h : k < l.length) => mapStep (fun s => itM m s K) h
 obtain ⟨L, hLL⟩ : ∃ L, L = l.map fun s => itM m s K := ⟨_, rfl⟩
 have hLlen : L.length = l.length := by rw [hLL]; simp
 simp only [← hLL] at hst
 rw [← hLL]
 obtain ⟨Q, hQ⟩ : ∃ Q, Q = powP (permM m) K := ⟨_, rfl⟩
 have hQl : Q.length ≤ 64 := by rw [hQ, powP_len]; exact hpl
 obtain ⟨Pm, hPm⟩ : ∃ Pm, Pm = permM m := ⟨_, rfl⟩
 rw [← hQ] at hpw
 rw [← hPm] at CP hpl
 simp only [← hQ] at CW
 simp only [← hPm] at CW
 obtain ⟨ev, hev⟩ : ∃ ev : Int → Int, ∀ s, ev s = itM m s K := ⟨_, fun _ => rfl⟩
 simp only [← hev] at hpw hst
 have HP := hid CP; have HW := hid CW; have HPW := hid hpw; have HST := hid hst; have HLN := hid hLlen
 clear CP CW hpw hst hLL hQ hPm hl hLlen hev
 go_enter Tryz.func80, Tryz.ntmps80
 go_wp2_with fail
 refine (HP.out _ (hR.below hS.b)).mono ?_
 rintro e w1 ⟨v1, rfl, ho1, b1⟩
 obtain ⟨a1, c1, rfl, h1, _, _⟩ := ho1.reps
 have hS1 := hS.mono b1
 go_wp2_with fail
 refine (HW.out a1 c1 w1 h1).mono ?_
 rintro e w2 ⟨v2, rfl, ho2, b2⟩
 obtain ⟨a2, c2, rfl, h2, _, _⟩ := ho2.reps
 have t2 := bnext hS1.b b2
 have hS2 := ((SL.nil w2).nilS (α := Int) (e := 3) cIntS)
 clear hS hS1 ho1 ho2 h1 b1 b2
 go_wp2_with fail
 go_loopw [9, 8] (fun i v wr => ∃ k : Nat, k ≤ l.length ∧ i = .int .i64 k ∧ SL w2.heap.size w2 wr [pOwn cInt 1 3 v (L.take k)]) (fun i _ _ => l.length - (intOf i).toNat)
 case atStart => exact ⟨0, by omega, rfl, hS2⟩
 case round =>
  clear hS2
  obtain ⟨k, hk, rfl, hSr⟩ := hrel
  by_cases hlt : k < l.length
  ·obtain ⟨x0, x1, x2⟩ := HPW.out k hlt
   have hs := HST.out k hlt
   have hle : (L.take k).length ≤ 64 := by rw [List.length_take]; omega
   obtain ⟨x, hx⟩ : ∃ x, x = atD 0 l k := ⟨_, rfl⟩
   rw [← hx] at x0 x1 x2 hs
   obtain ⟨y, hy⟩ : ∃ y, y = ev x := ⟨_, rfl⟩
   rw [← hy] at x2 hs
   have HX := hid hx; have HX2 := hid x2; have HS := hid hs
   have hLr := hL.below (bnext t2 hSr.b)
   have hQr := h2.below hSr.b
   clear hx x2 hs hy
   go_wp2_with (first | ((with_reducible refine wpList_idx _ 0 E_ints F_int cInt1 wU wU (hLr) oD oD (fun _ => wU) (fun _ => ?_)); rw [← HX.out]) | ((with_reducible refine wpList_idx _ 0 E_ints F_int cInt1 wU wU (hQr) oD oD (fun _ => wU) (fun _ => ?_)); rw [HX2.out]) | ((with_reducible refine wpList_pushL (y := y) 0 E_ints wU wU (hSr) wU cIntO ⟨rfl, rfl⟩ (by first | with_unfolding_all rfl | simp) wU (by first | omega | (simp; omega)) (by first | omega | (simp; omega)) ?_); intro v5 w5 hS5))
   exact ⟨⟨k + 1, by omega, by go_num, by rw [HS.out]; exact hS5⟩, by simp [intOf]; omega⟩
  ·have hkn : k = L.length := by rw [HLN.out]; omega
   have et : L.take k = L := by rw [hkn, List.take_length]
   rw [et] at hSr
   clear et hkn
   go_wp2_with fail
   go_ret
   exact ⟨_, rfl, (hSr.own 0 rfl).mono t2.size, bnext t2 hSr.b⟩
theorem rpair_any (m : MacV) (ad : Option Addr) (cap : Nat) (a b : Int) (w : World) (hR : Ints w ad cap m.sw) (hg0 : 1 ≤ m.gears) (hg : m.gears ≤ 16) (a0 : 0 ≤ a) (a1 : a < 4 * m.gears) (b0 : 0 ≤ b) (b1 : b < 4 * m.gears) (hne : a ≠ b) :
  Calls Tryz.prog 115 #[mV m ad cap, .int .i64 a, .int .i64 b] w fun r w' => r = .returned (.int .i64 (pairN m (a, b))) ∧ Below w.heap.size w w' := by
 have hcap := hR.le
 have hmx := hR.max
 have hS := (SL.nil w).box (.cells (mC m ad cap) 25)
 obtain ⟨L, hL0, hL1, hLa, hLb⟩ := meet_per2 hg a0 a1 b0 b1
 have hMR := meetM_spec m a b
 obtain ⟨R, hRR⟩ : ∃ R, R = pairN m (a, b) := ⟨_, rfl⟩
 have hRv : R = match meetM m a b with | some v => (v.1 : Int) | none => -1 := hRR
 rw [← hRR]
 generalize meetM m a b = mm at hMR hRv
 have HX : Hid (∀ n : Nat, 0 ≤ itM m a n ∧ itM m a n < 4 * m.gears) := hid fun n => itM_rng a0 a1 n
 have HY : Hid (∀ n : Nat, 0 ≤ itM m b n ∧ itM m b n < 4 * m.gears) := hid fun n => itM_rng b0 b1 n
 have HNX : Hid (∀ n : Nat, itM m a (n + 1) = nextM m (itM m a n)) := hid fun n => itM_succ a0 a1 n
 have HNY : Hid (∀ n : Nat, itM m b (n + 1) = nextM m (itM m b n)) := hid fun n => itM_succ b0 b1 n
 have HNE : Hid (∀ n : Nat, itM m b n ≠ itM m a n) := hid fun n e => hne (itM_inj b0 b1 a0 a1 n e).symm
 have HO : Hid (∀ (x : Int) w, 0 ≤ x → x < 4 * m.gears → _) := hid fun x w h0 h1 => rOther_any m ad cap x w hg0 hg h0 h1
 have HST : Hid (∀ (x : Int) w, Ints w ad cap m.sw → 0 ≤ x → x < 4 * m.gears → _) := hid fun x w h h0 h1 => rStep_any m ad cap x w h hg0 hg h0 h1
 have HMR := hid hMR; have HRV := hid hRv
 have HLA := hid hLa; have HLB := hid hLb
 clear hMR hRv hRR hLa hLb hne a0 a1 b0 b1
 go_enter Tryz.func115, Tryz.ntmps115
 go_wp2_with fail
 go_loopw [7, 8, 9] (fun x y i wr => ∃ n : Nat, n < L ∧ x = .int .i64 (itM m a n) ∧ y = .int .i64 (itM m b n) ∧ i = .int .i64 n ∧ (∀ k, k < n → hitM m (itM m a k) (itM m b k) = false) ∧ SL w.heap.size w wr [pBlk w.heap.size (.cells (mC m ad cap) 25)]) (fun _ _ i _ => L - (intOf i).toNat)
 case atStart => exact ⟨0, hL0, rfl, rfl, rfl, fun k hk => absurd hk (Nat.not_lt_zero k), hS⟩
 case round =>
  clear hS
  obtain ⟨n, hn, rfl, rfl, rfl, hno, hSr⟩ := hrel
  have HNO := hid hno
  clear hno
  have q0 := (hSr.blk 0 rfl).1
  obtain ⟨X, hX⟩ : ∃ X, X = itM m a n := ⟨_, rfl⟩
  obtain ⟨Y, hY⟩ : ∃ Y, Y = itM m b n := ⟨_, rfl⟩
  have hxr := HX.out n
  have hyr := HY.out n
  have hnx := HNX.out n
  have hny := HNY.out n
  have hoh := other_hit (m := m) (x := itM m a n) (y := itM m b n) hxr.1 hxr.2 hyr.1 hyr.2 (HNE.out n)
  have CO := fun w => HO.out (itM m a n) w hxr.1 hxr.2
  have CX := fun w h => HST.out (itM m a n) w h hxr.1 hxr.2
  have CY := fun w h => HST.out (itM m b n) w h hyr.1 hyr.2
  rw [← hX] at hoh CO CX hnx ⊢
  rw [← hY] at hoh CY hny ⊢
  obtain ⟨O, hOO⟩ : ∃ O, O = otherM m X := ⟨_, rfl⟩
  rw [← hOO] at hoh CO
  have hn4 : (n : Int) < 4096 := by omega
  have HCO := hid CO; have HCX := hid CX; have HCY := hid CY; have HNX1 := hid hnx; have HNY1 := hid hny; have EX := hid hX; have EY := hid hY
  clear CO CX CY hOO hxr hyr hnx hny hX hY
  cases hhit : hitM m X Y
  ·rw [hhit] at hoh
   have HIT := hid hhit
   clear hhit
   go_wp2_with (with_reducible refine wpList_ldS (n := 4) (us := mC m ad cap) A_rmach kR wU wU (by assumption) wU wU ?_)
   refine (HCO.out _).mono ?_
   rintro e w4 ⟨rfl, b4⟩
   have hS4 := hSr.mono b4
   clear q0
   go_wp2_with fail
   have R4 := hR.below hS4.b
   have q4 := (hS4.blk 0 rfl).1
   refine wp_region_q kR kR ?_
   repeat (first | ((with_reducible refine wpB_loadS (n := 4) (us := mC m ad cap) A_rmach kR wU wU (by assumption) wU wU ?_); (try simp only [Act.put, pA, pB, pC])) | ((refine wpB_call (.int .i64 (nextM m X)) wU (fun w' => ?_) (fun w' hw' => HCX.out w' (R4.below hw')) ?_); (focus (go_simp; done)); (try simp only [Act.put, pA, pB, pC])) | ((refine wpB_call (.int .i64 (nextM m Y)) wU (fun w' => ?_) (fun w' hw' => HCY.out w' (R4.below hw')) ?_); (focus (go_simp; done)); (try simp only [Act.put, pA, pB, pC])) |  ((with_reducible refine wpB_load (by first | exact F_int | exact F_u64s) wU wU (by assumption) wU ?_); (try simp only [Act.put, pA, pB, pC])) | ((refine wpQ_oneG ?_ wU (fun w' => ?_) ?_); rotate_left; (go_simp; rfl); (try simp only [Act.put, pA, pB, pC])))
   refine wpQuiet_nil ?_
   intro w5 hb5
   have hS5 := hS4.mono hb5
   rw [← HNX1.out, ← HNY1.out]
   have hno2 : ∀ k, k < n + 1 → hitM m (itM m a k) (itM m b k) = false := by
    intro k hk
    by_cases e : k = n
    ·rw [e, ← EX.out, ← EY.out]; exact HIT.out
    ·exact HNO.out k (by omega)
   by_cases ea : itM m a (n + 1) = a
   ·by_cases eb : itM m b (n + 1) = b
    ·have hN : MeetR m a b none := meet_none (by omega) ea eb hno2
     have hrn := HMR.out.eq hN
     subst hrn
     have hR1 : R = -1 := HRV.out
     clear hno2 hN HRV
     subst hR1
     have da : (itM m a (n + 1) == a) = true := by simpa using ea
     have db : (itM m b (n + 1) == b) = true := by simpa using eb
     clear ea eb
     go_wp2_with fail
     go_ret
     exact ⟨rfl, hS5.b⟩
    ·have da : (itM m a (n + 1) == a) = true := by simpa using ea
     have db : (itM m b (n + 1) == b) = false := by simpa using eb
     have hnl : n + 1 ≠ L := fun e => eb (by rw [e]; exact HLB.out)
     have HNO2 := hid hno2
     clear ea eb hno2
     go_wp2_with fail
     exact ⟨⟨n + 1, by omega, rfl, rfl, by go_num, HNO2.out, hS5⟩, by simp [intOf]; omega⟩
   ·have da : (itM m a (n + 1) == a) = false := by simpa using ea
    have hnl : n + 1 ≠ L := fun e => ea (by rw [e]; exact HLA.out)
    have HNO2 := hid hno2
    clear ea hno2
    go_wp2_with fail
    exact ⟨⟨n + 1, by omega, rfl, rfl, by go_num, HNO2.out, hS5⟩, by simp [intOf]; omega⟩
  ·rw [hhit] at hoh
   have hM : MeetR m a b (some (n, placeM m X)) := ⟨by rw [← EX.out, ← EY.out]; exact hhit, by rw [← EX.out], HNO.out⟩
   have hrn := HMR.out.eq hM
   subst hrn
   have hR1 : R = n := HRV.out
   clear hhit hM HRV
   subst hR1
   go_wp2_with (with_reducible refine wpList_ldS (n := 4) (us := mC m ad cap) A_rmach kR wU wU (by assumption) wU wU ?_)
   refine (HCO.out _).mono ?_
   rintro e w4 ⟨rfl, b4⟩
   go_wp2_with fail
   go_ret
   exact ⟨rfl, bnext hSr.b b4⟩
end Go.Proofs.YtoebgfgihfjnnaaGreatDoor

namespace Go.Proofs.YtoebgfgihfjnnaaGreatDoor
open Go.RowKit
set_option maxHeartbeats 8000000
set_option maxRecDepth 100000

/-- one more carrier in a slot meets none, and is in the slot of none. -/
noncomputable def hurtM (m : MacV) (s b : Int) : Bool := decide (b = s) || (meetM m s b).isSome
noncomputable def apartM (m : MacV) (s : Int) (l : List Int) : Bool := !l.any (hurtM m s)

theorem apart1_any (m : MacV) (ad : Option Addr) (cap : Nat) (bs bm : Nat) (s b : Int) (w : World) (hm : w.heap[bm]? = some (.cells (mC m ad cap) 24)) (hs : w.heap[bs]? = some (.cells #[.int .i64 s] 3)) (hR : Ints w ad cap m.sw) (hg : m.gears ≤ 16) (s0 : 0 ≤ s) (s1 : s < 4 * m.gears) (b0 : 0 ≤ b) (b1 : b < 4 * m.gears) :
  Calls Tryz.prog 147 #[.int .i64 b, .pointer (some ⟨bs, 0, none⟩), .pointer (some ⟨bm, 0, none⟩)] w fun r w' => r = .returned (.bool (hurtM m s b)) ∧ Below w.heap.size w w' := by
 have CM := fun w h => meet_any m ad cap s b w h hg s0 s1 b0 b1
 have hh : hurtM m s b = (decide (b = s) || (meetM m s b).isSome) := rfl
 rw [hh]
 clear hh
 have S0 := SL.nil w
 by_cases e : b = s
 ·have d1 : (b == s) = true := by simpa using e
  have d2 : decide (b = s) = true := decide_eq_true e
  rw [d2]
  clear e CM d2
  go_enter Tryz.func147, Tryz.ntmps147
  go_wp2_with (with_reducible refine wpList_ldB F_int wU wU hs wU ?_)
  go_ret
  exact ⟨rfl, Below.refl _ _⟩
 ·have d1 : (b == s) = false := by simpa using e
  have d2 : decide (b = s) = false := decide_eq_false e
  rw [d2, Bool.false_or]
  clear e d2
  cases hf : meetM m s b with
  | none =>
   rw [hf] at CM
   have HM := hid CM
   clear CM hf
   go_enter Tryz.func147, Tryz.ntmps147
   go_wp2_with (first | (with_reducible refine wpList_ldB F_int wU wU hs wU ?_) | (with_reducible refine wpList_ldS (n := 4) (us := mC m ad cap) A_mach kR wU wU (by assumption) wU wU ?_))
   refine (HM.out _ hR).mono ?_
   rintro e w1 ⟨rfl, b1⟩
   have hS1 := (S0.mono b1).box (.cells #[.int .i64 0, .int .i64 0] 137)
   go_wp2_with ((with_reducible refine wpList_stoR (us := #[.int .i64 0, .int .i64 0]) 0 wU wU (hS1) wU kR wU wU ?_); intro w3 hS3)
   go_ret
   exact ⟨rfl, hS3.b⟩
  | some v =>
   rw [hf] at CM
   have HM := hid CM
   clear CM hf
   go_enter Tryz.func147, Tryz.ntmps147
   go_wp2_with (first | (with_reducible refine wpList_ldB F_int wU wU hs wU ?_) | (with_reducible refine wpList_ldS (n := 4) (us := mC m ad cap) A_mach kR wU wU (by assumption) wU wU ?_))
   refine (HM.out _ hR).mono ?_
   rintro e w1 ⟨rfl, b1⟩
   have hS1 := (S0.mono b1).box (.cells #[.int .i64 0, .int .i64 0] 137)
   go_wp2_with ((with_reducible refine wpList_stoR (us := meC v) 0 wU wU (hS1) wU kR wU wU ?_); intro w3 hS3)
   go_ret
   exact ⟨rfl, hS3.b⟩

/-- slices.IndexFunc with a function of the program. -/
theorem indexF_any (p1 p2 : Value) (g : Int → Bool) (al : Option Addr) (cl : Nat) (l : List Int) (w : World) (hL : Ints w al cl l)
  (HF : ∀ x ∈ l, ∀ w', Below w.heap.size w w' → Calls Tryz.prog 147 #[.int .i64 x, p1, p2] w' fun r w'' => r = .returned (.bool (g x)) ∧ Below w'.heap.size w' w'') :
  Calls Tryz.prog 175 #[.slice al l.length cl, .func (.func 147) #[] #[p1, p2]] w fun r w' => ∃ z : Int, r = .returned (.int .i64 z) ∧ decide (0 ≤ z) = l.any g ∧ Below w.heap.size w w' := by
 have hcap := hL.le
 have hmx := hL.max
 have H := hid HF
 clear HF
 have hS := SL.nil w
 go_enter Tryz.func175, Tryz.ntmps175
 go_wp2_with fail
 go_loopw [8] (fun i wr => ∃ k : Nat, k ≤ l.length ∧ i = .int .i64 k ∧ (l.take k).any g = false ∧ SL w.heap.size w wr []) (fun i _ => l.length - (intOf i).toNat)
 case atStart => exact ⟨0, by omega, rfl, rfl, hS⟩
 case round =>
  clear hS
  obtain ⟨k, hk, rfl, hno, hSr⟩ := hrel
  have hLr := hL.below hSr.b
  by_cases hlt : k < l.length
  ·have hmem := atD_mem hlt
   have ht := take_snoc hlt
   obtain ⟨x, hx⟩ : ∃ x, x = atD 0 l k := ⟨_, rfl⟩
   rw [← hx] at hmem ht
   have HX := hid hx; have HT := hid ht; have HNO := hid hno
   have C := fun w' h => H.out x hmem w' h
   clear hx ht hno
   cases hgx : g x
   ·rw [hgx] at C
    have HC := hid C
    have HG := hid hgx
    clear C hgx
    go_wp2_with ((with_reducible refine wpList_idx _ 0 E_ints F_int cInt1 wU wU (hLr) oD oD (fun _ => wU) (fun _ => ?_)); rw [← HX.out])
    refine (HC.out _ hSr.b).mono ?_
    rintro e w1 ⟨rfl, b1⟩
    have hS1 := hSr.mono b1
    go_wp2_with fail
    exact ⟨⟨k + 1, by omega, by go_num, by rw [HT.out, List.any_append, HNO.out]; simp [HG.out], hS1⟩, by simp [intOf]; omega⟩
   ·rw [hgx] at C
    have HC := hid C
    have HG := hid hgx
    clear C hgx
    go_wp2_with ((with_reducible refine wpList_idx _ 0 E_ints F_int cInt1 wU wU (hLr) oD oD (fun _ => wU) (fun _ => ?_)); rw [← HX.out])
    refine (HC.out _ hSr.b).mono ?_
    rintro e w1 ⟨rfl, b1⟩
    have hS1 := hSr.mono b1
    go_wp2_with fail
    go_ret
    refine ⟨_, rfl, ?_, hS1.b⟩
    rw [List.any_eq_true.2 ⟨x, hmem, HG.out⟩]
    simp
  ·have hkk : k = l.length := by omega
   subst hkk
   rw [List.take_length] at hno
   have HNO := hid hno
   clear hno
   go_wp2_with fail
   go_ret
   exact ⟨_, rfl, by rw [HNO.out]; decide, hSr.b⟩
theorem containsF_any (p1 p2 : Value) (g : Int → Bool) (al : Option Addr) (cl : Nat) (l : List Int) (w : World) (hL : Ints w al cl l)
  (HF : ∀ x ∈ l, ∀ w', Below w.heap.size w w' → Calls Tryz.prog 147 #[.int .i64 x, p1, p2] w' fun r w'' => r = .returned (.bool (g x)) ∧ Below w'.heap.size w' w'') :
  Calls Tryz.prog 146 #[.slice al l.length cl, .func (.func 147) #[] #[p1, p2]] w fun r w' => r = .returned (.bool (l.any g)) ∧ Below w.heap.size w w' := by
 have HI := hid (indexF_any p1 p2 g al cl l w hL HF)
 clear HF
 go_enter Tryz.func146, Tryz.ntmps146
 go_wp2_with fail
 refine HI.out.mono ?_
 rintro e w1 ⟨z, rfl, hz, b1⟩
 have HZ := hid hz
 clear hz
 go_wp2_with fail
 go_ret
 exact ⟨by rw [← HZ.out]; rfl, b1⟩
theorem apart_any (m : MacV) (ad : Option Addr) (cap : Nat) (al : Option Addr) (cl : Nat) (s : Int) (l : List Int) (w : World) (hR : Ints w ad cap m.sw) (hL : Ints w al cl l) (hg : m.gears ≤ 16) (s0 : 0 ≤ s) (s1 : s < 4 * m.gears) (hl : ∀ x ∈ l, 0 ≤ x ∧ x < 4 * m.gears) :
  Calls Tryz.prog 110 #[mV m ad cap, .int .i64 s, .slice al l.length cl] w fun r w' => r = .returned (.bool (apartM m s l)) ∧ Below w.heap.size w w' := by
 have hS := ((SL.nil w).box (.cells (mC m ad cap) 24)).box (.cells #[.int .i64 s] 3)
 simp only [World.size_alloc] at hS
 have q1 := (hS.blk 1 rfl).1
 have q0 := (hS.blk 0 rfl).1
 have hb : apartM m s l = !l.any (hurtM m s) := rfl
 rw [hb]
 clear hb
 go_enter Tryz.func110, Tryz.ntmps110
 go_wp2_with fail
 refine (containsF_any _ _ (hurtM m s) al cl l _ (hL.below hS.b) (fun x hx w' hw' => ?_)).mono ?_
 ·refine apart1_any m ad cap _ _ s x w' ?_ ?_ ((hR.below hS.b).below hw') hg s0 s1 (hl x hx).1 (hl x hx).2
  ·exact (hw'.block _ (hS.blk 1 rfl).2.2).trans q1
  ·exact (hw'.block _ (hS.blk 0 rfl).2.2).trans q0
 rintro e w1 ⟨rfl, b1⟩
 go_wp2_with fail
 go_ret
 exact ⟨rfl, bnext hS.b b1⟩

def slotsL (m : MacV) : List Int := (List.range (4 * m.gears).toNat).map fun (i : Nat) => (i : Int)
theorem slotsL_len (m : MacV) : (slotsL m).length = (4 * m.gears).toNat := by simp [slotsL]
theorem slotsL_take (m : MacV) {k : Nat} (h : k < (slotsL m).length) : (slotsL m).take (k + 1) = (slotsL m).take k ++ [(k : Int)] := by
 rw [List.take_succ_eq_append_getElem h]
 simp [slotsL]
noncomputable def freeM (m : MacV) (l : List Int) : List Int := (slotsL m).filter fun s => apartM m s l
theorem accE_zero {m : MacV} {l : List Int} (h : accE m l = 0) : LoadOk m l ∧ firstM m l = none := by
 unfold accE at h
 split at h
 ·rename_i h1; exact absurd h h1
 ·rename_i h1
  refine ⟨loadE_zero (by simpa using h1), ?_⟩
  cases hf : firstM m l with
  | none => rfl
  | some v => rw [hf] at h; simp at h

theorem mFree_any (m : MacV) (ad : Option Addr) (cap : Nat) (al : Option Addr) (cl : Nat) (l : List Int) (w : World) (hR : Ints w ad cap m.sw) (hL : Ints w al cl l) (HK : ChkL m ad cap al cl l) :
  Calls Tryz.prog 55 #[mV m ad cap, .slice al l.length cl] w fun r w' => ∃ v, r = .returned (.tuple #[v, .int .i64 (accE m l)]) ∧ OwnI w.heap.size w' v (if accE m l = 0 then freeM m l else []) ∧ Below w.heap.size w w' := by
 have CA := fun w h h2 => mAccept_any m ad cap al cl l w h h2 HK
 have hS := (SL.nil w).box (.cells (mC m ad cap) 24)
 have R1 := hR.below hS.b
 have L1 := hL.below hS.b
 clear HK
 by_cases he : accE m l = 0
 ·have hok := (accE_zero he).1
  have hlo := hok.ok.lo
  have hhi := hok.ok.hi
  have CS := fun w => slots_any m ad cap w (by omega) hhi
  have CP := fun (k : Nat) w h h2 (hk : (k : Int) < 4 * m.gears) => apart_any m ad cap al cl (k : Int) l w h h2 hhi (by omega) hk hok.rng
  rw [if_pos he]
  rw [he] at CA ⊢
  have hlen := slotsL_len m
  obtain ⟨n, hn⟩ : ∃ n : Nat, 4 * m.gears = n := ⟨(4 * m.gears).toNat, by omega⟩
  have hlen2 : (slotsL m).length = n := by rw [hlen]; omega
  rw [hn] at CS CP
  have hn64 : n ≤ 64 := by omega
  have HC := hid CA; have HS := hid CS; have HP := hid CP; have HLL := hid hlen2
  clear CA CS CP hok he hlen hlen2 hn
  go_enter Tryz.func55, Tryz.ntmps55
  go_wp2_with fail
  refine (HC.out _ R1 L1).mono ?_
  rintro e w1 ⟨rfl, b1⟩
  have hS1 := hS.mono b1
  have q1 := (hS1.blk 0 rfl).1
  go_wp2_with (with_reducible refine wpList_ldS (n := 4) (us := mC m ad cap) A_mach kR wU wU (by assumption) wU wU ?_)
  refine (HS.out _).mono ?_
  rintro e w2 ⟨rfl, b2⟩
  have hS2 := (hS1.mono b2).nilS (α := Int) (e := 3) cIntS
  clear q1
  go_wp2_with fail
  go_loopw [7, 17] (fun v i wr => ∃ k : Nat, k ≤ n ∧ i = .int .i64 k ∧ SL w.heap.size w wr [pOwn cInt 1 3 v (((slotsL m).take k).filter fun s => apartM m s l), pBlk w.heap.size (.cells (mC m ad cap) 24)]) (fun _ i _ => n - (intOf i).toNat)
  case atStart => exact ⟨0, by omega, rfl, hS2⟩
  case round =>
   clear hS2 hS1 hS
   obtain ⟨k, hk, rfl, hSr⟩ := hrel
   have q1 := (hSr.blk 1 rfl).1
   by_cases hlt : k < n
   ·have ht := slotsL_take m (k := k) (by rw [HLL.out]; exact hlt)
    have hle : (((slotsL m).take k).filter fun s => apartM m s l).length ≤ 64 := Nat.le_trans (List.length_filter_le _ _) (by rw [List.length_take]; omega)
    have HT := hid ht
    have C := fun w h h2 => HP.out k w h h2 (by omega)
    clear ht
    cases hap : apartM m k l
    ·rw [hap] at C
     have HA := hid hap; have HCC := hid C
     clear hap C
     go_wp2_with (with_reducible refine wpList_ldS (n := 4) (us := mC m ad cap) A_mach kR wU wU (by assumption) wU wU ?_)
     refine (HCC.out _ (hR.below hSr.b) (hL.below hSr.b)).mono ?_
     rintro e w4 ⟨rfl, b4⟩
     have hS4 := hSr.mono b4
     go_wp2_with fail
     exact ⟨⟨k + 1, by omega, by go_num, by rw [HT.out, List.filter_append]; simpa [HA.out] using hS4⟩, by simp [intOf]; omega⟩
    ·rw [hap] at C
     have HA := hid hap; have HCC := hid C
     clear hap C
     go_wp2_with (with_reducible refine wpList_ldS (n := 4) (us := mC m ad cap) A_mach kR wU wU (by assumption) wU wU ?_)
     refine (HCC.out _ (hR.below hSr.b) (hL.below hSr.b)).mono ?_
     rintro e w4 ⟨rfl, b4⟩
     have hS4 := hSr.mono b4
     go_wp2_with ((with_reducible refine wpList_pushL (y := (k : Int)) 0 E_ints wU wU (hS4) wU cIntO ⟨rfl, rfl⟩ (by first | with_unfolding_all rfl | simp) wU (by first | omega | (simp; omega)) (by first | omega | (simp; omega)) ?_); intro v5 w5 hS5)
     exact ⟨⟨k + 1, by omega, by go_num, by rw [HT.out, List.filter_append]; simpa [HA.out] using hS5⟩, by simp [intOf]; omega⟩
   ·have hkn : k = n := by omega
    subst hkn
    have et : ((slotsL m).take k).filter (fun s => apartM m s l) = freeM m l := by rw [List.take_of_length_le (by rw [HLL.out]; omega)]; rfl
    rw [et] at hSr
    clear et
    go_wp2_with fail
    go_ret2
    exact ⟨_, rfl, hSr.own 0 rfl, hSr.b⟩
 ·obtain ⟨E, hE⟩ : ∃ E, E = accE m l := ⟨_, rfl⟩
  rw [← hE] at CA he ⊢
  have hne : (E != 0) = true := by simpa using he
  rw [if_neg he]
  have HC := hid CA
  clear CA hE he
  go_enter Tryz.func55, Tryz.ntmps55
  go_wp2_with fail
  refine (HC.out _ R1 L1).mono ?_
  rintro e w1 ⟨rfl, b1⟩
  have hS1 := hS.mono b1
  go_wp2_with fail
  go_ret2
  exact ⟨_, rfl, own_nil cIntS, hS1.b⟩
end Go.Proofs.YtoebgfgihfjnnaaGreatDoor
