/- The texts Push to RowK, joined by joinlist.py: their statements say what each proves. -/
import Derived.Test.YtbgakdpbglpfaaaGreatDoorProg
import Derived.Test.YtbgakdpbglpfaaaGreatDoorKit
import Derived.ArgAppend
-- the text Push
namespace Go.Proofs.YtbgakdpbglpfaaaGreatDoor
open Go.RowKit
theorem infoInt : (Tryz.prog.info? 3).map (fun i => (i.zero, i.size, i.bytes)) = some (some (.int .i64 0), 1, 8) := by kernel_rfl
/-- the slice value v is the call's own row that holds xs -/
def OwnI (w : World) (base : Nat) (v : Value) (xs : List Int) : Prop := w.ownsRow base 3 1 v xs.length (ints xs)
section
variable {w w' : World} {base : Nat} {v : Value} {xs : List Int}
theorem OwnI.nil (w : World) (base : Nat) : OwnI w base (.slice none 0 0) [] := World.ownsRow_nil _ _ _ _
theorem OwnI.keep (h : OwnI w base v xs) (hk : ∀ g, v.ownBlock = some g → w'.heap[g]? = w.heap[g]?) : OwnI w' base v xs := by
  refine ⟨h.1, ?_⟩
  rcases h.2 with h0 | ⟨g, cap, cur, rfl, hb, hg, r⟩
  · exact .inl h0
  · exact .inr ⟨g, cap, cur, rfl, hb, (hk g rfl).trans hg, r⟩
theorem OwnI.lt (h : OwnI w base v xs) {g : Nat} (hg : v.ownBlock = some g) : g < w.heap.size := (World.ownsRow.lt h g hg).2
theorem OwnI.ge (h : OwnI w base v xs) {g : Nat} (hg : v.ownBlock = some g) : base ≤ g := (World.ownsRow.lt h g hg).1
theorem OwnI.callee (h : OwnI w base v xs) (hb : Below w.heap.size w w') : OwnI w' base v xs := h.keep fun g hg => hb.block g (h.lt hg)
theorem OwnI.none_ (h : OwnI w base v xs) (hb : w.grownBy w' none) : OwnI w' base v xs := h.keep fun g hg => hb.block g (h.lt hg) (by simp)
theorem OwnI.some_ (h : OwnI w base v xs) {k : Nat} (hb : w.grownBy w' (some k)) (hne : v.ownBlock ≠ some k) : OwnI w' base v xs := h.keep fun g hg => hb.block g (h.lt hg) (fun e => hne (by rw [hg, e]))
theorem OwnI.set_ (h : OwnI w base v xs) {p : Addr} (hne : v.ownBlock ≠ some p.block) (u : Value) : OwnI (w.setCell p u) base v xs := h.keep fun g hg => Below.heap_setCell w p u g (fun e => hne (by rw [hg, e]))
theorem OwnI.drew (h : OwnI w base v xs) : OwnI w.drew base v xs := h
theorem OwnI.drewN (h : OwnI w base v xs) (n : Nat) : OwnI (w.drewN n) base v xs := h
theorem OwnI.reads (h : OwnI w base v xs) : ∃ A c, v = .slice A xs.length c ∧ RInts w w.heap.size A xs.length xs := by
  rcases h.2 with ⟨rfl, h0⟩ | ⟨g, cap, cur, rfl, hb, hg, r⟩
  · have : xs = [] := List.eq_nil_of_length_eq_zero h0
    subst this
    exact ⟨none, 0, rfl, RInts.none_⟩
  · exact ⟨_, _, rfl, RInts.of_own h⟩
theorem OwnI.blk_ne {g : Nat} {t : TypeId} {cs : Array Value} (h : OwnI w base v xs) (hg : Blk w g t cs) (hne : 3 ≠ t) : v.ownBlock ≠ some g := own_blk_ne h hg hne
theorem wp_push {o : Oper} {a : Act} {K : Act → World → Prop} {Q : Exit → Act → World → Prop} (s x : Operand)
    (ho : o.op = .call { callee := .builtin .append, args := #[s, x], argTypes := #[40, 40] }) (hs : a.eval s = v) (hown : OwnI w base v xs)
    (B c : Nat) (y : Int) (hx : a.eval x = .slice (some ⟨B, 0, none⟩) 1 c) (hB : Blk w B 3 #[.int .i64 y]) (hlen : xs.length ≤ 1000000000) (hbase : base ≤ w.heap.size)
    (h : ∀ (g cap : Nat) (w' : World), OwnI w' base (.slice (some ⟨g, 0, none⟩) (xs.length + 1) cap) (xs ++ [y]) → w.grownBy w' v.ownBlock → (v.ownBlock = some g ∨ g = w.heap.size) → g < w'.heap.size → K (a.put o.dst (.slice (some ⟨g, 0, none⟩) (xs.length + 1) cap)) w') : o.wp Tryz.prog a w K Q := by
  obtain ⟨i0, hi0, hz0, hz1, hz2⟩ := info_parts infoInt
  refine wp_append_lies w s x 40 ho base 3 i0 (.int .i64 0) 1 8 Tryz.underlying40 hi0 hz0 hz1 hz2 rfl (by decide) v xs.length (ints xs) hs hown ⟨B, 0, none⟩ 1 c [.int .i64 y] hx rfl
    (World.news_of_block hB) (by simp [Value.oneCell']) (by decide) (by simp only [maxLen]; omega) (by omega) hbase _ rfl ?_
  intro g cap w' hown' hgr hat hlt
  refine h g cap w' ?_ hgr hat hlt
  unfold OwnI
  rw [ints_append, List.length_append]
  exact hown'
theorem wpList_push {ops : Array Oper} {rest : List Oper} {o : Oper} {a : Act} {Q : Exit → Act → World → Prop} (hgd : o.guard = none) (s x : Operand)
    (ho : o.op = .call { callee := .builtin .append, args := #[s, x], argTypes := #[40, 40] }) (hs : a.eval s = v) (hown : OwnI w base v xs)
    (B c : Nat) (y : Int) (hx : a.eval x = .slice (some ⟨B, 0, none⟩) 1 c) (hB : Blk w B 3 #[.int .i64 y]) (hlen : xs.length ≤ 1000000000) (hbase : base ≤ w.heap.size)
    (h : ∀ (g cap : Nat) (w' : World), OwnI w' base (.slice (some ⟨g, 0, none⟩) (xs.length + 1) cap) (xs ++ [y]) → w.grownBy w' v.ownBlock → (v.ownBlock = some g ∨ g = w.heap.size) → g < w'.heap.size → wpList Tryz.prog ops Q rest (a.put o.dst (.slice (some ⟨g, 0, none⟩) (xs.length + 1) cap)) w') : wpList Tryz.prog ops Q (o :: rest) a w :=
  wpList_plain hgd fun _ hK => wp_push s x ho hs hown B c y hx hB hlen hbase fun g cap w' h2 h3 h4 h5 => hK _ _ (h g cap w' h2 h3 h4 h5)
end
end Go.Proofs.YtbgakdpbglpfaaaGreatDoor
-- the text RowK
namespace Go.Proofs.YtbgakdpbglpfaaaGreatDoor
open Go.RowKit
/-- all but some blocks stand -/
structure Fr (S : Nat → Prop) (w w' : World) : Prop where
  os : w'.os = w.os
  tape : w'.tape = w.tape
  output : w'.output = w.output
  size : w.heap.size ≤ w'.heap.size
  block : ∀ i, i < w.heap.size → ¬ S i → w'.heap[i]? = w.heap[i]?
section
variable {w w' w'' : World} {g : Nat} {cs : Array Value} {S S' : Nat → Prop}
theorem Fr.below {B : Nat} {a : World} (h : Fr S w w') (hb : Below B a w) (hB : B ≤ w.heap.size) (hS : ∀ i, S i → B ≤ i) : Below B a w' :=
  hb.trans ⟨h.os, h.tape, h.output, h.size, fun i hi => h.block i (by omega) (fun hs => by have := hS i hs; omega)⟩
/-- the slice v reads as l; its array lies in block og, behind base -/
def RowI (w : World) (base : Nat) (v : Value) (og : Option Nat) (l : List Int) : Prop :=
  ∃ A cap, v = .slice A l.length cap ∧ l.length ≤ cap ∧ cap ≤ maxLen ∧ (og = none → cap = 0 ∧ A = none) ∧
    ∀ g, og = some g → base ≤ g ∧ ∃ off cs, A = some ⟨g, off, none⟩ ∧ Blk w g 3 cs ∧ off + cap ≤ cs.size ∧ ∀ (j : Nat) (b : Int), l[j]? = some b → cs[off + j]? = some (.int .i64 b)
variable {base : Nat} {v : Value} {og : Option Nat} {l : List Int}
theorem RowI.nil (w : World) (base : Nat) : RowI w base (.slice none 0 0) none [] := ⟨none, 0, rfl, Nat.le_refl _, by decide, fun _ => ⟨rfl, rfl⟩, fun g h => by cases h⟩
theorem RowI.same (h : RowI w base v og l) (hb : ∀ g, og = some g → w'.heap[g]? = w.heap[g]?) : RowI w' base v og l := by
  obtain ⟨A, cap, h1, h2, h3, h4, h5⟩ := h
  refine ⟨A, cap, h1, h2, h3, h4, fun g hg => ?_⟩
  obtain ⟨hbg, off, cs, e1, e2, e3, e4⟩ := h5 g hg
  exact ⟨hbg, off, cs, e1, (hb g hg).trans e2, e3, e4⟩
theorem RowI.lt (h : RowI w base v og l) {g : Nat} (hg : og = some g) : g < w.heap.size := by
  obtain ⟨A, cap, h1, h2, h3, h4, h5⟩ := h
  obtain ⟨_, off, cs, e1, e2, _⟩ := h5 g hg
  exact e2.lt
theorem RowI.ge (h : RowI w base v og l) {g : Nat} (hg : og = some g) : base ≤ g := by
  obtain ⟨A, cap, h1, h2, h3, h4, h5⟩ := h
  exact (h5 g hg).1
theorem RowI.none_ (h : RowI w base v og l) (hb : w.grownBy w' none) : RowI w' base v og l := h.same fun g hg => hb.block g (h.lt hg) (by simp)
/-- the first one is read, and cut off -/
theorem RowI.cut {x : Int} (h : RowI w base v og (x :: l)) : ∃ g off cap, og = some g ∧ v = .slice (some ⟨g, off, none⟩) (l.length + 1) cap ∧ l.length + 1 ≤ cap ∧ w.cell? ⟨g, off, none⟩ = some (.int .i64 x) ∧
    (cap = 1 → RowI w base (.slice (some ⟨g, off, none⟩) l.length (cap - 1)) og l) ∧ RowI w base (.slice (some ⟨g, off + 1, none⟩) l.length (cap - 1)) og l := by
  obtain ⟨A, cap, rfl, h2, h3, h4, h5⟩ := h
  cases og with
  | none =>
    obtain ⟨rfl, _⟩ := h4 rfl
    simp at h2
  | some g =>
    obtain ⟨hbg, off, cs, rfl, e2, e3, e4⟩ := h5 g rfl
    simp only [List.length_cons] at h2
    refine ⟨g, off, cap, rfl, rfl, h2, ?_, fun h1 => ?_, ?_⟩
    · rw [e2.cell]
      exact e4 0 x rfl
    · have hl0 : l = [] := List.eq_nil_of_length_eq_zero (by omega)
      subst hl0
      exact ⟨_, _, rfl, by simp, by omega, fun h => (by cases h), fun g' hg' => by
        obtain rfl : g = g' := by simpa using hg'
        exact ⟨hbg, off, cs, rfl, e2, by omega, fun j b hj => by simp at hj⟩⟩
    · exact ⟨_, _, rfl, by omega, by omega, fun h => (by cases h), fun g' hg' => by
        obtain rfl : g = g' := by simpa using hg'
        refine ⟨hbg, off + 1, cs, rfl, e2, by omega, fun j b hj => ?_⟩
        rw [show off + 1 + j = off + (j + 1) by omega]
        exact e4 (j + 1) b (by rw [List.getElem?_cons_succ]; exact hj)⟩
theorem RowI.len (h : RowI w base v og l) : ∃ A c, v = .slice A l.length c := by
  obtain ⟨A, cap, e, _⟩ := h
  exact ⟨A, cap, e⟩
/-- append(v, y) -/
theorem wpList_pushR {ops : Array Oper} {rest : List Oper} {o : Oper} {a : Act} {Q : Exit → Act → World → Prop} (hgd : o.guard = none) (s x : Operand)
    (ho : o.op = .call { callee := .builtin .append, args := #[s, x], argTypes := #[40, 40] }) (hs : a.eval s = v) (hq : RowI w base v og l) (hbase : base ≤ w.heap.size)
    (B c : Nat) (y : Int) (hx : a.eval x = .slice (some ⟨B, 0, none⟩) 1 c) (hB : w.cell? ⟨B, 0, none⟩ = some (.int .i64 y)) (hlen : l.length ≤ 1000000)
    (h : ∀ v' g' w', RowI w' base v' (some g') (l ++ [y]) → (og = some g' ∨ w.heap.size ≤ g') → Fr (fun i => og = some i) w w' → wpList Tryz.prog ops Q rest (a.put o.dst v') w') : wpList Tryz.prog ops Q (o :: rest) a w := by
  obtain ⟨i0, hi0, hz0, hz1, hz2⟩ := info_parts infoInt
  have hq0 := hq
  obtain ⟨A, cap, rfl, h2, h3, h4, h5⟩ := hq
  have hnews : ∀ j u, [Value.int .i64 y][j]? = some u → w.cell? ((⟨B, 0, none⟩ : Addr).add j) = some u := fun j u hj => by
    cases j with
    | zero => simp at hj; subst hj; exact hB
    | succ j => simp at hj
  have hone : ∀ u ∈ [Value.int .i64 y], u.oneCell' = true := by simp [Value.oneCell']
  have hgrow : ∀ (v' : Value) (w' : World), w'.ownsRow w.heap.size 3 1 v' (l.length + 1) ((l.map fun b : Int => Value.int .i64 b) ++ [Value.int .i64 y]) → w.grownBy w' none → wpList Tryz.prog ops Q rest (a.put o.dst v') w' := by
    intro v' w' hown hg
    rcases hown.2 with ⟨_, h0⟩ | ⟨g, cap', cur, rfl, hb, hcur, hle, hmax, hsz, htk⟩
    · omega
    · refine h _ g w' ⟨some ⟨g, 0, none⟩, cap', by simp, by simpa using hle, hmax, fun h => (by cases h), fun g' hg' => ?_⟩ (Or.inr hb)
        ⟨hg.os, hg.tape, hg.output, hg.size, fun i hi _ => hg.block i hi (by simp)⟩
      obtain rfl : g = g' := by simpa using hg'
      refine ⟨by omega, 0, cur, rfl, hcur, by omega, fun j u hj => ?_⟩
      have hjl : j < l.length + 1 := by
        have := (List.getElem?_eq_some_iff.1 hj).1
        simpa using this
      have e1 : ((l.map fun b : Int => Value.int .i64 b) ++ [Value.int .i64 y]) = (l ++ [y]).map fun b : Int => Value.int .i64 b := by simp
      rw [e1] at htk
      have e2 := congrArg (fun l : List Value => l[j]?) htk
      simp only [List.getElem?_map, hj, Option.map_some, List.getElem?_take] at e2
      rw [if_pos (by omega)] at e2
      simpa using e2
  cases og with
  | none =>
    obtain ⟨rfl, rfl⟩ := h4 rfl
    have hl0 : l = [] := List.eq_nil_of_length_eq_zero (by omega)
    subst hl0
    refine wpList_append_grows w hgd s x 40 ho 3 i0 (.int .i64 0) 1 8 Tryz.underlying40 hi0 hz0 hz1 hz2 rfl (by decide) none 0 0 [] hs (fun _ => ⟨rfl, rfl⟩) rfl (fun _ _ j u hj => by simp at hj)
      ⟨B, 0, none⟩ 1 c [.int .i64 y] hx rfl hnews hone (by omega) (by simp only [maxLen]; omega) (by omega) ?_
    intro v' w' r1 r2
    exact hgrow v' w' (by simpa using r1) r2
  | some g =>
    obtain ⟨hbg, off, cs, rfl, e2, e3, e4⟩ := h5 g rfl
    have holds : ∀ j u, (l.map fun b : Int => Value.int .i64 b)[j]? = some u → w.cell? ⟨g, off + j, none⟩ = some u := fun j u hj => by
      rw [List.getElem?_map] at hj
      obtain ⟨b, hb1, rfl⟩ := Option.map_eq_some_iff.1 hj
      rw [e2.cell]; exact e4 j b hb1
    refine wpList_append_arg w hgd s x 40 ho 3 i0 (.int .i64 0) 1 8 Tryz.underlying40 hi0 hz0 hz1 hz2 rfl (by decide) g off l.length cap (l.map fun b : Int => Value.int .i64 b) hs (by simp) holds
      ⟨B, 0, none⟩ 1 c [.int .i64 y] hx rfl hnews hone ?_ (by simp only [maxLen]; omega) (by omega) ?_ (fun _ => hgrow)
    · intro hroom j hj
      obtain rfl : j = 0 := by simpa using hj
      simp only [Nat.mul_one, Nat.add_zero]
      refine ⟨?_, e2.frozen _⟩
      rw [e2.cell, Array.getElem?_eq_getElem (by omega)]; rfl
    · intro hroom
      have e0 : w.setCells g (off + l.length * 1) [.int .i64 y] = w.setCell ⟨g, off + l.length, none⟩ (.int .i64 y) := by simp [World.setCells]
      rw [e0]
      have hbs := e2.set_ (off + l.length) (.int .i64 y)
      refine h _ g _ ⟨some ⟨g, off, none⟩, cap, by simp, by simpa using hroom, h3, fun h => (by cases h), fun g' hg' => ?_⟩ (Or.inl rfl)
        ⟨rfl, rfl, rfl, by simp, fun i hi hne => Below.heap_setCell w _ _ i (fun e => hne (by rw [e]))⟩
      · obtain rfl : g = g' := by simpa using hg'
        refine ⟨hbg, off, _, rfl, hbs, by simpa using e3, fun j u hj => ?_⟩
        rw [Array.getElem?_setIfInBounds]
        by_cases hjl : j = l.length
        · subst hjl
          rw [if_pos rfl, if_pos (by omega)]
          simp at hj; subst hj; rfl
        · have : j < l.length := by
            have := (List.getElem?_eq_some_iff.1 hj).1
            simp at this; omega
          rw [if_neg (by omega), e4 j u (by rw [← hj, List.getElem?_append_left this])]
end
theorem RowI.tail {w : World} {base g off n cap : Nat} {x : Int} {l : List Int} (h : RowI w base (.slice (some ⟨g, off, none⟩) n cap) (some g) (x :: l)) :
    w.cell? ⟨g, off, none⟩ = some (.int .i64 x) ∧ RowI w base (.slice (if cap = 1 then some ⟨g, off, none⟩ else some ⟨g, off + 1, none⟩) l.length (cap - 1)) (some g) l := by
  obtain ⟨_, _, _, e1, e2, _, hcell, hc1, hc2⟩ := h.cut
  injection e1 with e1
  subst e1
  injection e2 with e2 _ e3
  injection e2 with e2
  injection e2 with _ e2 _
  subst e2 e3
  refine ⟨hcell, ?_⟩
  split
  · exact hc1 (by assumption)
  · exact hc2
/-- the last one is read, and cut off -/
theorem RowI.pop {w : World} {base : Nat} {v : Value} {og : Option Nat} {l : List Int} {x : Int} (h : RowI w base v og (l ++ [x])) : ∃ g off cap, og = some g ∧ v = .slice (some ⟨g, off, none⟩) (l.length + 1) cap ∧ l.length + 1 ≤ cap ∧ w.cell? ⟨g, off + l.length, none⟩ = some (.int .i64 x) ∧
    RowI w base (.slice (some ⟨g, off, none⟩) l.length cap) og l := by
  obtain ⟨A, cap, rfl, h2, h3, h4, h5⟩ := h
  rw [List.length_append, List.length_singleton] at h2
  cases og with
  | none =>
    obtain ⟨rfl, _⟩ := h4 rfl
    omega
  | some g =>
    obtain ⟨hbg, off, cs, rfl, e2, e3, e4⟩ := h5 g rfl
    refine ⟨g, off, cap, rfl, by rw [List.length_append, List.length_singleton], h2, ?_, ?_⟩
    · rw [e2.cell]
      exact e4 l.length x (by rw [List.getElem?_append_right (Nat.le_refl _), Nat.sub_self]; rfl)
    · exact ⟨_, _, rfl, by omega, by omega, fun h => (by cases h), fun g' hg' => by
        obtain rfl : g = g' := by simpa using hg'
        exact ⟨hbg, off, cs, rfl, e2, by omega, fun j b hj => e4 j b (by rw [List.getElem?_append_left (List.getElem?_eq_some_iff.1 hj).1]; exact hj)⟩⟩
end Go.Proofs.YtbgakdpbglpfaaaGreatDoor
