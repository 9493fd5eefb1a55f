/- The law ClaspTurns: the layers' maps, in a slice that the call makes. -/
import Derived.Test.YtjhcemhnnkcjaaaDoorTuK
import Derived.Test.YtjhcemhnnkcjaaaDoorTuP
namespace Go.Proofs.YtjhcemhnnkcjaaaDoor
open Go.RowKit Go.Maps
namespace Tu
theorem grown_set (w : World) (p : Addr) (u : Value) : w.grownBy (w.setCell p u) (some p.block) :=
  ⟨rfl, rfl, rfl, by simp, fun i _ hne => Below.heap_setCell w p u i (fun e => hne (by rw [e]))⟩
theorem grown_drew {w w' : World} {r : Option Nat} (h : w.grownBy w' r) : w.grownBy w'.drew r := ⟨h.os, h.tape, h.output, h.size, h.block⟩
theorem MapIs.isMap {w : World} {g nb : Nat} {p : Nat → Nat → Prop} (h : MapIs w g p nb) : ∃ es c, w.heap[g]? = some (.map es c) := by
  obtain ⟨n, m, S, _, ⟨D, ⟨es, c, hb, _⟩, _⟩, _⟩ := h
  exact ⟨es, c, hb⟩
theorem RngIs.isIter {w : World} {g r cnt : Nat} {F : Nat → Nat → Prop} (h : RngIs w g r F cnt) : ∃ x s t u, w.heap[r]? = some (.mapIter x s t u) := by
  obtain ⟨n, D, left, ⟨es, clock, since, seen, c0, _, _, _, _, hr, _⟩, _, _⟩ := h
  exact ⟨_, _, _, _, hr⟩
/-- a block of cells is no map, and no iterator -/
theorem blk_ne_map {w : World} {g k nb : Nat} {t : TypeId} {cs : Array Value} {p : Nat → Nat → Prop} (h : Blk w g t cs) (hm : MapIs w k p nb) : g ≠ k := by
  rintro rfl
  obtain ⟨es, c, e⟩ := hm.isMap
  unfold Blk at h
  rw [h] at e
  cases e
theorem blk_ne_iter {w : World} {g k r cnt : Nat} {t : TypeId} {cs : Array Value} {F : Nat → Nat → Prop} (h : Blk w g t cs) (hr : RngIs w k r F cnt) : g ≠ r := by
  rintro rfl
  obtain ⟨_, _, _, _, e⟩ := hr.isIter
  unfold Blk at h
  rw [h] at e
  cases e
theorem map_ne_iter {w : World} {g k r cnt nb : Nat} {p F : Nat → Nat → Prop} (h : MapIs w g p nb) (hr : RngIs w k r F cnt) : g ≠ r := by
  rintro rfl
  obtain ⟨_, _, _, _, e⟩ := hr.isIter
  obtain ⟨es, c, e2⟩ := h.isMap
  rw [e2] at e
  cases e
theorem MapIs.blk {w w' : World} {g k nb : Nat} {t : TypeId} {cs : Array Value} {p : Nat → Nat → Prop} (h : MapIs w g p nb) (hB : Blk w k t cs) (hgr : w.grownBy w' (some k)) : MapIs w' g p nb :=
  h.kept hgr (fun e => blk_ne_map hB h (by injection e with e; exact e.symm))
theorem RngIs.blk {w w' : World} {g r k cnt : Nat} {t : TypeId} {cs : Array Value} {F : Nat → Nat → Prop} (h : RngIs w g r F cnt) (hB : Blk w k t cs) (hgr : w.grownBy w' (some k)) : RngIs w' g r F cnt := by
  refine h.kept hgr (fun e => ?_) (fun e => blk_ne_iter hB h (by injection e with e; exact e.symm))
  obtain ⟨n, D, left, ⟨es, clock, since, seen, c0, hb, _⟩, _⟩ := h
  obtain rfl : g = k := by injection e
  unfold Blk at hB
  rw [hB] at hb
  cases hb
theorem RngIs.none_ {w w' : World} {g r cnt : Nat} {F : Nat → Nat → Prop} (h : RngIs w g r F cnt) (hgr : w.grownBy w' none) : RngIs w' g r F cnt := h.kept hgr (by simp) (by simp)
theorem MapIs.none_ {w w' : World} {g nb : Nat} {p : Nat → Nat → Prop} (h : MapIs w g p nb) (hgr : w.grownBy w' none) : MapIs w' g p nb := h.kept hgr (by simp)
/-- another map is written while the loop goes on -/
theorem RngIs.other {w w' : World} {g r k cnt nb : Nat} {F p : Nat → Nat → Prop} (h : RngIs w g r F cnt) (hm : MapIs w k p nb) (hne : g ≠ k) (hgr : w.grownBy w' (some k)) : RngIs w' g r F cnt :=
  h.kept hgr (fun e => hne (by injection e)) (fun e => map_ne_iter hm h (by injection e with e; exact e.symm))
theorem infoMap : (Tryd.prog.info? 58).map (fun i => (i.zero, i.size, i.bytes)) = some (some (.map none), 1, 8) := by kernel_rfl
def mapsV (gs : List Nat) : List Value := gs.map fun g => Value.map (some g)
theorem mapsV_at {gs : List Nat} {j g : Nat} (h : gs[j]? = some g) : (mapsV gs)[j]? = some (.map (some g)) := by
  unfold mapsV
  rw [List.getElem?_map, h]
  rfl
/-- the first layers lie in the slice v -/
structure Lrs (w0 w : World) (n m a b : Nat) (v : Value) (gs : List Nat) : Prop where
  be : Below w0.heap.size w0 w
  row : w.ownsRow w0.heap.size 58 1 v gs.length (mapsV gs)
  maps : ∀ (j g : Nat), gs[j]? = some g → w0.heap.size ≤ g ∧ MapIs w g (lay n m a b j) (4 ^ j)
section
variable {w0 w w' : World} {n m a b : Nat} {v : Value} {gs : List Nat}
theorem Lrs.row_ne {k nb : Nat} {p : Nat → Nat → Prop} (h : Lrs w0 w n m a b v gs) (hm : MapIs w k p nb) : v.ownBlock ≠ some k := by
  rcases h.row.2 with ⟨rfl, _⟩ | ⟨g', cap, cur, rfl, _, hh, _⟩
  · simp [Value.ownBlock]
  · intro he
    obtain rfl : g' = k := by simpa [Value.ownBlock] using he
    exact blk_ne_map (t := 58) hh hm rfl
theorem Lrs.row_neI {k r cnt : Nat} {F : Nat → Nat → Prop} (h : Lrs w0 w n m a b v gs) (hr : RngIs w k r F cnt) : v.ownBlock ≠ some r := by
  rcases h.row.2 with ⟨rfl, _⟩ | ⟨g', cap, cur, rfl, _, hh, _⟩
  · simp [Value.ownBlock]
  · intro he
    obtain rfl : g' = r := by simpa [Value.ownBlock] using he
    exact blk_ne_iter (t := 58) hh hr rfl
theorem Lrs.grown {row : Option Nat} (h : Lrs w0 w n m a b v gs) (hgr : w.grownBy w' row) (hk : ∀ k, row = some k → w0.heap.size ≤ k ∧ v.ownBlock ≠ some k ∧ ∀ (j g : Nat), gs[j]? = some g → g ≠ k) : Lrs w0 w' n m a b v gs := by
  refine ⟨h.be.grown hgr h.be.size (fun k e => (hk k e).1), ?_, fun j g hj => ⟨(h.maps j g hj).1, (h.maps j g hj).2.kept hgr (fun e => (hk g e.symm).2.2 j g hj rfl)⟩⟩
  refine h.row.kept hgr ?_
  cases hv : v.ownBlock with
  | none => exact Or.inl rfl
  | some k => exact Or.inr fun e => (hk k e.symm).2.1 hv
theorem Lrs.none_ (h : Lrs w0 w n m a b v gs) (hgr : w.grownBy w' none) : Lrs w0 w' n m a b v gs := h.grown hgr (fun k e => by cases e)
theorem Lrs.alloc (h : Lrs w0 w n m a b v gs) (o : Obj) : Lrs w0 (w.alloc o) n m a b v gs := h.none_ (World.grownBy_alloc w o none)
/-- a variable of the call's own is written -/
theorem Lrs.blk {k : Nat} {t : TypeId} {cs : Array Value} (h : Lrs w0 w n m a b v gs) (hB : Blk w k t cs) (ht : 58 ≠ t) (hk : w0.heap.size ≤ k) (hgr : w.grownBy w' (some k)) : Lrs w0 w' n m a b v gs :=
  h.grown hgr fun k' e => by
    obtain rfl : k = k' := by injection e
    exact ⟨hk, own_blk_ne h.row hB ht, fun j g hj => (blk_ne_map hB (h.maps j g hj).2).symm⟩
/-- the iterator goes on -/
theorem Lrs.iter {g r cnt : Nat} {F : Nat → Nat → Prop} (h : Lrs w0 w n m a b v gs) (hr : RngIs w g r F cnt) (hk : w0.heap.size ≤ r) (hgr : w.grownBy w' (some r)) : Lrs w0 w' n m a b v gs :=
  h.grown hgr fun k' e => by
    obtain rfl : r = k' := by injection e
    exact ⟨hk, h.row_neI hr, fun j g hj => map_ne_iter (h.maps j g hj).2 hr⟩
/-- another map is written -/
theorem Lrs.other {k nb : Nat} {p : Nat → Nat → Prop} (h : Lrs w0 w n m a b v gs) (hm : MapIs w k p nb) (hk : w0.heap.size ≤ k) (hne : ∀ (j g : Nat), gs[j]? = some g → g ≠ k) (hgr : w.grownBy w' (some k)) : Lrs w0 w' n m a b v gs :=
  h.grown hgr fun k' e => by
    obtain rfl : k = k' := by injection e
    exact ⟨hk, h.row_ne hm, hne⟩
/-- where the layers are read -/
theorem Lrs.form (h : Lrs w0 w n m a b v gs) (hne : 0 < gs.length) : ∃ gL cap, v = .slice (some ⟨gL, 0, none⟩) gs.length cap ∧ gs.length ≤ cap ∧ ∀ (j g : Nat), gs[j]? = some g → w.cell? ⟨gL, j, none⟩ = some (.map (some g)) := by
  have hrow := h.row
  rcases h.row.2 with ⟨_, h0⟩ | ⟨g', cap, cur, rfl, _, hh, hc, _⟩
  · omega
  · refine ⟨g', cap, rfl, hc, fun j g hj => ?_⟩
    rw [World.ownsRow.cellAt hrow j (by have := (List.getElem?_eq_some_iff.1 hj).1; omega)]
    exact mapsV_at hj
theorem Lrs.cellAt {gL len cap j g : Nat} (h : Lrs w0 w n m a b (.slice (some ⟨gL, 0, none⟩) len cap) gs) (hj : gs[j]? = some g) : w.cell? ⟨gL, j, none⟩ = some (.map (some g)) := by
  obtain ⟨g2, cap2, e, _, hc⟩ := h.form (by have := (List.getElem?_eq_some_iff.1 hj).1; omega)
  injection e with e _ _
  injection e with e
  injection e with e
  rw [e]
  exact hc j g hj
/-- one layer more -/
theorem Lrs.push {gN : Nat} {v' : Value} (h : Lrs w0 w n m a b v gs) (ho : w'.ownsRow w0.heap.size 58 1 v' (gs.length + 1) (mapsV gs ++ [.map (some gN)])) (hgr : w.grownBy w' v.ownBlock) (hk : w0.heap.size ≤ gN)
    (hN : MapIs w gN (lay n m a b gs.length) (4 ^ gs.length)) : Lrs w0 w' n m a b v' (gs ++ [gN]) := by
  have hlt := World.ownsRow.lt h.row
  refine ⟨h.be.grown hgr h.be.size (fun k e => (hlt k e).1), ?_, fun j g hj => ?_⟩
  · rw [List.length_append, List.length_singleton]
    unfold mapsV at ho ⊢
    rw [List.map_append]
    exact ho
  · rcases Nat.lt_or_ge j gs.length with hj2 | hj2
    · rw [List.getElem?_append_left hj2] at hj
      obtain ⟨q1, q2⟩ := h.maps j g hj
      exact ⟨q1, q2.kept hgr (fun e => h.row_ne q2 e.symm)⟩
    · have hj3 : j = gs.length := by
        have := (List.getElem?_eq_some_iff.1 hj).1
        simp at this
        omega
      subst hj3
      obtain rfl : gN = g := by simpa using hj
      exact ⟨hk, hN.kept hgr (fun e => h.row_ne hN e.symm)⟩
end
/-- append(layers, next) -/
theorem wpList_pushM {w : World} {base : Nat} {v : Value} {gs : List Nat} {ops : Array Oper} {rest : List Oper} {o : Oper} {a : Act} {Q : Exit → Act → World → Prop} (hgd : o.guard = none) (s x : Operand)
    (ho : o.op = .call { callee := .builtin .append, args := #[s, x], argTypes := #[59, 59] }) (hs : a.eval s = v) (hown : w.ownsRow base 58 1 v gs.length (mapsV gs))
    (B c gN : Nat) (hx : a.eval x = .slice (some ⟨B, 0, none⟩) 1 c) (hB : Blk w B 58 #[.map (some gN)]) (hlen : gs.length ≤ 1000000000) (hbase : base ≤ w.heap.size)
    (h : ∀ (v' : Value) (w' : World), w'.ownsRow base 58 1 v' (gs.length + 1) (mapsV gs ++ [.map (some gN)]) → w.grownBy w' v.ownBlock → wpList Tryd.prog ops Q rest (a.put o.dst v') w') : wpList Tryd.prog ops Q (o :: rest) a w := by
  obtain ⟨i0, hi0, hz0, hz1, hz2⟩ := info_parts infoMap
  refine wpList_append_lies w hgd s x 59 ho base 58 i0 (.map none) 1 8 Tryd.underlying59 hi0 hz0 hz1 hz2 rfl (by decide) v gs.length (mapsV gs) hs hown ⟨B, 0, none⟩ 1 c [.map (some gN)] hx rfl
    (World.news_of_block hB) (by simp [Value.oneCell']) (by decide) (by simp only [maxLen]; omega) (by omega) hbase _ rfl ?_
  intro g cap w' hown' hgr hat hlt
  exact h _ w' hown' hgr
/-- ahead of the loop: the first layer -/
theorem Lrs.start {w0 w w' : World} {n m a b : Nat} (hb : Below w0.heap.size w0 w) (hN : MapIs w' w.heap.size (fun x y => False ∨ (x = a ∧ y = b)) (0 + 1)) (hgr : (w.alloc (.map #[] 0)).grownBy w' (some w.heap.size)) :
    Lrs w0 (w'.alloc (.cells #[.map (some w.heap.size)] 58)) n m a b (.slice (some ⟨w'.heap.size, 0, none⟩) 1 1) [w.heap.size] := by
  have hb1 := hb.alloc hb.size (.map #[] 0)
  have hb2 := hb1.grown hgr hb1.size (fun k e => by injection e with e; rw [← e]; exact hb.size)
  refine ⟨hb2.alloc hb2.size _, World.ownsRow_lit w' #[.map (some w.heap.size)] 1 hb2.size (by decide) rfl, fun j g hj => ?_⟩
  have hj0 : j = 0 := by
    have := (List.getElem?_eq_some_iff.1 hj).1
    simp at this
    omega
  subst hj0
  obtain rfl : w.heap.size = g := by simpa using hj
  exact ⟨hb.size, ((hN.kept (World.grownBy_alloc w' _ none) (by simp)).cong (fun x y _ _ => by simp [lay])).more (by simp)⟩
/-- sizes of the two clasps -/
theorem two_at {n m s : Nat} (hs : s < 2) : (#[Value.int .i64 (n : Int), .int .i64 (m : Int)] : Array Value)[s]? = some (.int .i64 (pk s n m : Nat)) := by
  rcases (show s = 0 ∨ s = 1 by omega) with rfl | rfl <;> rfl
theorem pair_at {x y s : Nat} (hs : s < 2) : (#[Value.int .u32 (x : Int), .int .u32 (y : Int)] : Array Value)[s]? = some (.int .u32 (pk s x y : Nat)) := by
  rcases (show s = 0 ∨ s = 1 by omega) with rfl | rfl <;> rfl
theorem pair_set {x y s k : Nat} (hs : s < 2) : (#[Value.int .u32 (x : Int), .int .u32 (y : Int)] : Array Value).setIfInBounds s (.int .u32 ((pk s x y ^^^ 2 ^ k : Nat) : Int)) = #[.int .u32 (mvX s k x : Nat), .int .u32 (mvY s k y : Nat)] := by
  rcases (show s = 0 ∨ s = 1 by omega) with rfl | rfl <;> rfl
theorem zero_both (w : World) : (zeroValue 57).run Tryd.prog w = .ok (.agg #[.int .u32 0, .int .u32 0]) w := Tryd.zeroValue57 w
theorem info_both : (Tryd.prog.info? 57).map (·.size) = some 2 := by kernel_rfl
end Tu
end Go.Proofs.YtjhcemhnnkcjaaaDoor
