/- The law ClaspTurns: what can still be opened: sets of pairs, filled from the end; their maps. -/
import Derived.Test.YtjhcemhnnkcjaaaDoorTuM
namespace Go.Proofs.YtjhcemhnnkcjaaaDoor
open Go.RowKit Go.Maps
namespace Tu
set_option maxHeartbeats 400000 in
theorem free_q (s k : Nat) (hk : k ≤ 31) (hs : s < 4294967296) (w : World) :
    Calls Tryd.prog 42 #[.int .u32 (s : Int), .int .i64 (k : Int)] w fun e w' => e = .returned (.bool (freeB s k)) ∧ ∃ q, w' = w.drewN q := by
  by_cases h0 : k = 0
  · subst h0
    go_enter Tryd.func42, Tryd.ntmps42
    go_wp2_with (fail)
    go_quiet (fail)
    go_wp2_with (fail)
    go_ret
    exact ⟨rfl, _, rfl⟩
  · have hk0 : ((k : Int) == 0) = false := by simp; omega
    have hk1 : 0 < k := by omega
    have hG := Lib.hid (free_go hk hk1 hs)
    go_enter Tryd.func42, Tryd.ntmps42
    go_wp2_with (fail)
    go_quiet (fail)
    rw [hG.out]
    go_wp2_with (fail)
    go_ret
    exact ⟨rfl, _, rfl⟩
/-- those of L that are no longer to come and have a ring that leads to one of G -/
def goP (L G F : Nat → Nat → Prop) (s sz x y : Nat) : Prop := (L x y ∧ ¬ F x y) ∧ ∃ k, k < sz ∧ freeB (pk s x y) k = true ∧ G (mvX s k x) (mvY s k y)
def goK (L G F : Nat → Nat → Prop) (s sz x1 y1 k x y : Nat) : Prop := goP L G F s sz x y ∨ ((x = x1 ∧ y = y1) ∧ ∃ j, j < k ∧ freeB (pk s x1 y1) j = true ∧ G (mvX s j x1) (mvY s j y1))
section
variable {L G F : Nat → Nat → Prop} {s sz x1 y1 k x y : Nat}
theorem goP_start : goP L G L s sz x y ↔ False := ⟨fun ⟨⟨h1, h2⟩, _⟩ => h2 h1, False.elim⟩
theorem goK_zero : goK L G F s sz x1 y1 0 x y ↔ goP L G F s sz x y := ⟨fun h => h.elim id (fun ⟨_, _, h, _⟩ => absurd h (by omega)), Or.inl⟩
theorem goK_skip (h : ¬ (freeB (pk s x1 y1) k = true ∧ G (mvX s k x1) (mvY s k y1))) : goK L G F s sz x1 y1 (k + 1) x y ↔ goK L G F s sz x1 y1 k x y := by
  unfold goK
  constructor
  · rintro (h1 | ⟨he, j, h1, h2, h3⟩)
    · exact Or.inl h1
    · refine Or.inr ⟨he, j, ?_, h2, h3⟩
      rcases Nat.lt_or_ge j k with h4 | h4
      · exact h4
      · obtain rfl : j = k := by omega
        exact absurd ⟨h2, h3⟩ h
  · rintro (h1 | ⟨he, j, h1, h2, h3⟩)
    · exact Or.inl h1
    · exact Or.inr ⟨he, j, by omega, h2, h3⟩
theorem goK_put (h : freeB (pk s x1 y1) k = true) (hG : G (mvX s k x1) (mvY s k y1)) : goK L G F s sz x1 y1 (k + 1) x y ↔ (goK L G F s sz x1 y1 k x y ∨ (x = x1 ∧ y = y1)) := by
  unfold goK
  constructor
  · rintro (h1 | ⟨he, _⟩)
    · exact Or.inl (Or.inl h1)
    · exact Or.inr he
  · rintro ((h1 | ⟨he, j, h1, h2, h3⟩) | he)
    · exact Or.inl h1
    · exact Or.inr ⟨he, j, by omega, h2, h3⟩
    · exact Or.inr ⟨he, k, by omega, h, hG⟩
theorem goK_end (h : L x1 y1) : goK L G F s sz x1 y1 sz x y ↔ goP L G (strk F x1 y1) s sz x y := by
  unfold goK goP strk
  constructor
  · rintro (⟨⟨h1, h2⟩, h3⟩ | ⟨⟨rfl, rfl⟩, h1⟩)
    · exact ⟨⟨h1, fun h4 => h2 h4.1⟩, h3⟩
    · exact ⟨⟨h, fun h4 => h4.2 ⟨rfl, rfl⟩⟩, h1⟩
  · rintro ⟨⟨h1, h2⟩, h3⟩
    by_cases he : x = x1 ∧ y = y1
    · obtain ⟨rfl, rfl⟩ := he
      exact Or.inr ⟨⟨rfl, rfl⟩, h3⟩
    · exact Or.inl ⟨⟨h1, fun h6 => h2 ⟨h6, he⟩⟩, h3⟩
end
theorem go_layer {n m a b C i x y : Nat} {F : Nat → Nat → Prop} (hi : i < C) (hx : x < 16) (hy : y < 16) (hF : ∀ x y, x < 16 → y < 16 → ¬ F x y) : goP (lay n m a b i) (gd n m a b C (C - (i + 1))) F (i % 2) (pk (i % 2) n m) x y ↔ gd n m a b C (C - i) x y := by
  have e : C - i = (C - (i + 1)) + 1 := by omega
  rw [e, gd, show C - (C - (i + 1) + 1) = i by omega]
  constructor
  · rintro ⟨⟨h1, _⟩, h2⟩
    exact ⟨h1, h2⟩
  · rintro ⟨h1, h2⟩
    exact ⟨⟨h1, hF x y hx hy⟩, h2⟩
/-- the maps of good, from number j on, in block gG -/
structure Gds (w0 w : World) (n m a b C gG : Nat) (H : Nat → Nat) (j : Nat) : Prop where
  bG : w0.heap.size ≤ gG
  blk : ∃ cs, Blk w gG 58 cs ∧ cs.size = C + 1
  ent : ∀ t, j ≤ t → t ≤ C → w.cell? ⟨gG, t, none⟩ = some (.map (some (H t))) ∧ w0.heap.size ≤ H t ∧ MapIs w (H t) (gd n m a b C (C - t)) 9000000000000000000
section
variable {w0 w w' : World} {n m a b C gG j : Nat} {H : Nat → Nat}
theorem Gds.grown {row : Option Nat} (h : Gds w0 w n m a b C gG H j) (hgr : w.grownBy w' row) (hk : ∀ k, row = some k → gG ≠ k ∧ ∀ t, j ≤ t → t ≤ C → H t ≠ k) : Gds w0 w' n m a b C gG H j := by
  obtain ⟨cs, hB, hs⟩ := h.blk
  have hne : some gG ≠ row := fun e => (hk gG e.symm).1 rfl
  have hB2 := hB.grown hgr hne
  refine ⟨h.bG, ⟨cs, hB2, hs⟩, fun t h1 h2 => ?_⟩
  obtain ⟨q1, q2, q3⟩ := h.ent t h1 h2
  exact ⟨by rw [hB2.cell, ← hB.cell]; exact q1, q2, q3.kept hgr (fun e => (hk (H t) e.symm).2 t h1 h2 rfl)⟩
theorem Gds.none_ (h : Gds w0 w n m a b C gG H j) (hgr : w.grownBy w' none) : Gds w0 w' n m a b C gG H j := h.grown hgr (fun k e => by cases e)
theorem Gds.alloc (h : Gds w0 w n m a b C gG H j) (o : Obj) : Gds w0 (w.alloc o) n m a b C gG H j := h.none_ (World.grownBy_alloc w o none)
theorem Gds.var {k : Nat} {t : TypeId} {cs : Array Value} (h : Gds w0 w n m a b C gG H j) (hB : Blk w k t cs) (ht : 58 ≠ t) (hgr : w.grownBy w' (some k)) : Gds w0 w' n m a b C gG H j :=
  h.grown hgr fun k' e => by
    obtain rfl : k = k' := by injection e
    obtain ⟨cs, hG, _⟩ := h.blk
    exact ⟨hG.ne_ hB ht, fun t h1 h2 => (blk_ne_map hB (h.ent t h1 h2).2.2).symm⟩
theorem Gds.iter {g r cnt : Nat} {F : Nat → Nat → Prop} (h : Gds w0 w n m a b C gG H j) (hr : RngIs w g r F cnt) (hgr : w.grownBy w' (some r)) : Gds w0 w' n m a b C gG H j :=
  h.grown hgr fun k' e => by
    obtain rfl : r = k' := by injection e
    obtain ⟨cs, hG, _⟩ := h.blk
    exact ⟨blk_ne_iter hG hr, fun t h1 h2 => map_ne_iter (h.ent t h1 h2).2.2 hr⟩
theorem Gds.other {k nb : Nat} {p : Nat → Nat → Prop} (h : Gds w0 w n m a b C gG H j) (hm : MapIs w k p nb) (hne : ∀ t, j ≤ t → t ≤ C → H t ≠ k) (hgr : w.grownBy w' (some k)) : Gds w0 w' n m a b C gG H j :=
  h.grown hgr fun k' e => by
    obtain rfl : k = k' := by injection e
    obtain ⟨cs, hG, _⟩ := h.blk
    exact ⟨blk_ne_map hG hm, hne⟩
/-- a new map is laid into its place -/
theorem Gds.set (h : Gds w0 w n m a b C gG H j) {i : Nat} (hi : i < j) (hC : i ≤ C) (v : Value) : Gds w0 (w.setCell ⟨gG, i, none⟩ v) n m a b C gG H j ∧ (w.setCell ⟨gG, i, none⟩ v).cell? ⟨gG, i, none⟩ = some v := by
  obtain ⟨cs, hB, hs⟩ := h.blk
  have hB2 := hB.set_ i v
  refine ⟨⟨h.bG, ⟨_, hB2, by simpa using hs⟩, fun t h1 h2 => ?_⟩, ?_⟩
  · obtain ⟨q1, q2, q3⟩ := h.ent t h1 h2
    refine ⟨?_, q2, q3.kept (grown_set w ⟨gG, i, none⟩ v) (fun e => blk_ne_map hB q3 (by injection e with e; exact e.symm))⟩
    rw [hB2.cell, Array.getElem?_setIfInBounds, if_neg (by omega), ← hB.cell]
    exact q1
  · rw [hB2.cell, Array.getElem?_setIfInBounds, if_pos rfl, if_pos (by omega)]
theorem Gds.room (h : Gds w0 w n m a b C gG H j) {i : Nat} (hC : i ≤ C) : (∃ u, w.cell? ⟨gG, i, none⟩ = some u) ∧ w.frozen? ⟨gG, i, none⟩ = false := by
  obtain ⟨cs, hB, hs⟩ := h.blk
  exact ⟨⟨cs[i], by rw [hB.cell, Array.getElem?_eq_getElem (by omega)]⟩, hB.frozen i⟩
theorem Gds.more (h : Gds w0 w n m a b C gG H (j + 1)) {hN nb : Nat} (hc : w.cell? ⟨gG, j, none⟩ = some (.map (some hN))) (hb : w0.heap.size ≤ hN) (hM : MapIs w hN (gd n m a b C (C - j)) nb) (hnb : nb ≤ 9000000000000000000) : Gds w0 w n m a b C gG (fun t => if t = j then hN else H t) j := by
  refine ⟨h.bG, h.blk, fun t h1 h2 => ?_⟩
  by_cases ht : t = j
  · subst ht
    rw [if_pos rfl]
    exact ⟨hc, hb, hM.more hnb⟩
  · rw [if_neg ht]
    exact h.ent t (by omega) h2
end
/-- a place of good is written: the layers stand -/
theorem Lrs.place {w0 w w' : World} {n m a b k : Nat} {v : Value} {gs : List Nat} {cs : Array Value} (h : Lrs w0 w n m a b v gs) (hB : Blk w k 58 cs) (hv : v.ownBlock ≠ some k) (hk : w0.heap.size ≤ k) (hgr : w.grownBy w' (some k)) : Lrs w0 w' n m a b v gs :=
  h.grown hgr fun k' e => by
    obtain rfl : k = k' := by injection e
    exact ⟨hk, hv, fun j g hj => (blk_ne_map hB (h.maps j g hj).2).symm⟩
/-- is a pair in the map: whatever has been drawn -/
theorem MapIs.lookN {w : World} {g nb : Nat} {p : Nat → Nat → Prop} (h : MapIs w g p nb) {x y : Nat} (hx : x < 16) (hy : y < 16) : ∃ b : Bool, (b = true ↔ p x y) ∧ ∀ q, (Instr.lookup 58 (.map (some g)) (pairU x y) false).run Tryd.prog (w.drewN q) = .ok (.bool b) (w.drewN q) := by
  obtain ⟨n, m, S, h1, h2, h3⟩ := h
  refine ⟨_, h3.at hx hy, fun q => ?_⟩
  exact (h2.kept (w' := w.drewN q) (row := none) ⟨rfl, rfl, rfl, Nat.le_refl _, fun _ _ _ => rfl⟩ (by simp)).look keyU Tryd.underlying58 Tryd.underlying4 (zeroB _) (key_lit hx hy)
theorem grown_of {w w' : World} (hb : Below w.heap.size w w') : w.grownBy w' none := ⟨hb.os, hb.tape, hb.output, hb.size, fun i hi _ => hb.block i hi⟩
theorem made_size (v : Value) (N : Nat) : (madeCells #[v] N).size = N := by
  have h := congrArg List.length (toList_madeCells_one v N)
  simpa using h
/-- ahead of the loop: good, with its last map -/
theorem Gds.start {w0 wu wp : World} {n m a b C N1 : Nat} (hb : Below w0.heap.size w0 wu) (hN1 : C + 1 = N1) (hM : MapIs wp (wu.heap.size + 1) (fun x y => False ∨ (x = 0 ∧ y = 0)) (0 + 1))
    (hgr : ((wu.alloc (.cells (madeCells #[.map none] N1) 58)).alloc (.map #[] 0)).grownBy wp (some (wu.heap.size + 1))) :
    (∃ u, wp.cell? ⟨wu.heap.size, C, none⟩ = some u) ∧ wp.frozen? ⟨wu.heap.size, C, none⟩ = false ∧ (∃ H, Gds w0 (wp.setCell ⟨wu.heap.size, C, none⟩ (.map (some (wu.heap.size + 1)))) n m a b C wu.heap.size H C) ∧ Below wu.heap.size wu (wp.setCell ⟨wu.heap.size, C, none⟩ (.map (some (wu.heap.size + 1)))) := by
  have hB := ((Blk.new wu 58 (madeCells #[.map none] N1)).alloc (.map #[] 0)).grown hgr (by simp)
  have hG0 : Gds w0 wp n m a b C wu.heap.size (fun _ => 0) (C + 1) := ⟨hb.size, ⟨_, hB, by rw [made_size, hN1]⟩, fun t h1 h2 => by omega⟩
  obtain ⟨q1, q2⟩ := hG0.room (i := C) (Nat.le_refl _)
  obtain ⟨q3, q4⟩ := hG0.set (i := C) (by omega) (Nat.le_refl _) (.map (some (wu.heap.size + 1)))
  have hM2 := hM.blk hB (grown_set wp ⟨wu.heap.size, C, none⟩ (.map (some (wu.heap.size + 1))))
  refine ⟨q1, q2, ⟨_, q3.more (j := C) q4 (by have := hb.size; omega) (hM2.cong (q := gd n m a b C (C - C)) (fun x y _ _ => ?_)) (by omega)⟩, ?_⟩
  · rw [Nat.sub_self, gd]
    simp
  · have h1 := (Below.refl wu.heap.size wu).alloc (Nat.le_refl _) (.cells (madeCells #[.map none] N1) 58)
    have h2 := h1.alloc h1.size (.map #[] 0)
    have h3 := h2.grown hgr h2.size (fun k e => by injection e with e; omega)
    exact h3.setCell (p := ⟨wu.heap.size, C, none⟩) (Nat.le_refl _) _
/-- while a map of good is filled -/
structure Fil (w0 wu w : World) (n m a b C gG : Nat) (H : Nat → Nat) (u gN : Nat) (v : Value) (gs : List Nat) : Prop where
  gds : Gds w0 w n m a b C gG H (u + 1)
  ce : w.cell? ⟨gG, u, none⟩ = some (.map (some gN))
  lr : Lrs w0 w n m a b v gs
  be : Below gG wu w
  gw : gG ≤ wu.heap.size
section
variable {w0 wu w w' : World} {n m a b C gG u gN : Nat} {H : Nat → Nat} {v : Value} {gs : List Nat}
theorem Fil.sz (h : Fil w0 wu w n m a b C gG H u gN v gs) : gG ≤ w.heap.size := Nat.le_trans h.gw h.be.size
theorem Fil.none_ (h : Fil w0 wu w n m a b C gG H u gN v gs) (hgr : w.grownBy w' none) : Fil w0 wu w' n m a b C gG H u gN v gs :=
  ⟨h.gds.none_ hgr, hgr.cell h.ce (by simp), h.lr.none_ hgr, h.be.grown hgr h.sz (fun k e => by cases e), h.gw⟩
theorem Fil.ne {k : Nat} {t : TypeId} {cs : Array Value} (h : Fil w0 wu w n m a b C gG H u gN v gs) (hB : Blk w k t cs) (ht : 58 ≠ t) : gG ≠ k := by
  obtain ⟨cs, hG, _⟩ := h.gds.blk
  exact hG.ne_ hB ht
theorem Fil.var {k : Nat} {t : TypeId} {cs : Array Value} (h : Fil w0 wu w n m a b C gG H u gN v gs) (hB : Blk w k t cs) (ht : 58 ≠ t) (hk : gG ≤ k) (hgr : w.grownBy w' (some k)) : Fil w0 wu w' n m a b C gG H u gN v gs :=
  ⟨h.gds.var hB ht hgr, hgr.cell h.ce (fun e => h.ne hB ht (by injection e)), h.lr.blk hB ht (Nat.le_trans h.gds.bG hk) hgr, h.be.grown hgr h.sz (fun k' e => by injection e with e; omega), h.gw⟩
theorem Fil.iter {g r cnt : Nat} {F : Nat → Nat → Prop} (h : Fil w0 wu w n m a b C gG H u gN v gs) (hr : RngIs w g r F cnt) (hk : gG ≤ r) (hgr : w.grownBy w' (some r)) : Fil w0 wu w' n m a b C gG H u gN v gs := by
  obtain ⟨cs, hG, _⟩ := h.gds.blk
  exact ⟨h.gds.iter hr hgr, hgr.cell h.ce (fun e => blk_ne_iter hG hr (by injection e)), h.lr.iter hr (Nat.le_trans h.gds.bG hk) hgr, h.be.grown hgr h.sz (fun k' e => by injection e with e; omega), h.gw⟩
theorem Fil.other {nb : Nat} {p : Nat → Nat → Prop} (h : Fil w0 wu w n m a b C gG H u gN v gs) (hm : MapIs w gN p nb) (hk : gG ≤ gN) (hne : ∀ t, u + 1 ≤ t → t ≤ C → H t ≠ gN) (hne2 : ∀ (j g : Nat), gs[j]? = some g → g ≠ gN) (hgr : w.grownBy w' (some gN)) : Fil w0 wu w' n m a b C gG H u gN v gs := by
  obtain ⟨cs, hG, _⟩ := h.gds.blk
  exact ⟨h.gds.other hm hne hgr, hgr.cell h.ce (fun e => blk_ne_map hG hm (by injection e)), h.lr.other hm (Nat.le_trans h.gds.bG hk) hne2 hgr, h.be.grown hgr h.sz (fun k' e => by injection e with e; omega), h.gw⟩
end
/-- a new map of good -/
theorem Fil.start {w0 wu w : World} {n m a b C gG u : Nat} {H : Nat → Nat} {v : Value} {gs : List Nat} (hG : Gds w0 w n m a b C gG H (u + 1)) (hL : Lrs w0 w n m a b v gs) (hb : Below gG wu w) (hw : gG ≤ wu.heap.size) (hu : u < C) (hv : v.ownBlock ≠ some gG) :
    (∃ x, (w.alloc (.map #[] 0)).cell? ⟨gG, u, none⟩ = some x) ∧ (w.alloc (.map #[] 0)).frozen? ⟨gG, u, none⟩ = false ∧ Fil w0 wu ((w.alloc (.map #[] 0)).setCell ⟨gG, u, none⟩ (.map (some w.heap.size))) n m a b C gG H u w.heap.size v gs ∧
    MapIs ((w.alloc (.map #[] 0)).setCell ⟨gG, u, none⟩ (.map (some w.heap.size))) w.heap.size (fun _ _ => False) 0 := by
  have hG1 := hG.alloc (.map #[] 0)
  obtain ⟨cs, hB, hs⟩ := hG1.blk
  obtain ⟨q1, q2⟩ := hG1.room (i := u) (by omega)
  obtain ⟨q3, q4⟩ := hG1.set (i := u) (by omega) (by omega) (.map (some w.heap.size))
  have hgr := grown_set (w.alloc (.map #[] 0)) ⟨gG, u, none⟩ (.map (some w.heap.size))
  have hsz : gG ≤ w.heap.size := Nat.le_trans hw hb.size
  have hb1 := hb.alloc hsz (.map #[] 0)
  exact ⟨q1, q2, ⟨q3, q4, (hL.alloc _).place hB hv hG.bG hgr, hb1.setCell (p := ⟨gG, u, none⟩) (Nat.le_refl _) _, hw⟩, (MapIs.made w).blk hB hgr⟩
theorem eq_neg {t : Nat} : ((t + 1 : Nat) : Int) - 1 = (t : Int) := by omega
set_option maxRecDepth 100000 in
theorem eq_zero (w : World) : (Op.equalIn 10000 57 (.agg #[.int .u32 0, .int .u32 0]) (.agg #[.int .u32 0, .int .u32 0])).run Tryd.prog w = .ok true w := by
  obtain ⟨r, hr, hi⟩ := run_equal_deep w (m := 2) (by omega) kt2 wide2 (key_lit (x := 0) (y := 0) (by omega) (by omega)) (key_lit (x := 0) (y := 0) (by omega) (by omega))
  have h : r = true := hi.2 rfl
  subst h
  exact hr
/-- while the turns are told -/
structure Pst (w0 wu w : World) (n m a b C gG : Nat) (H : Nat → Nat) : Prop where
  gds : Gds w0 w n m a b C gG H 0
  be : Below gG wu w
  bc : Below w0.heap.size w0 w
  gw : gG ≤ wu.heap.size
section
variable {w0 wu w w' : World} {n m a b C gG : Nat} {H : Nat → Nat}
theorem Pst.sz (h : Pst w0 wu w n m a b C gG H) : gG ≤ w.heap.size := Nat.le_trans h.gw h.be.size
theorem Pst.none_ (h : Pst w0 wu w n m a b C gG H) (hgr : w.grownBy w' none) : Pst w0 wu w' n m a b C gG H := ⟨h.gds.none_ hgr, h.be.grown hgr h.sz (fun k e => by cases e), below_none h.bc hgr h.bc.size, h.gw⟩
theorem Pst.var {k : Nat} {t : TypeId} {cs : Array Value} (h : Pst w0 wu w n m a b C gG H) (hB : Blk w k t cs) (ht : 58 ≠ t) (hk : gG ≤ k) (hgr : w.grownBy w' (some k)) : Pst w0 wu w' n m a b C gG H :=
  ⟨h.gds.var hB ht hgr, h.be.grown hgr h.sz (fun k' e => by injection e with e; omega), below_some h.bc hgr h.bc.size (Nat.le_trans h.gds.bG hk), h.gw⟩
end
end Tu
end Go.Proofs.YtjhcemhnnkcjaaaDoor
