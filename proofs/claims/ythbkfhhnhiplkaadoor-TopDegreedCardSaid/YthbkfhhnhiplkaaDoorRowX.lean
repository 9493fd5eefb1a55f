/- Appending to a slice of ints: where it lies behind it. -/
import Derived.Test.YthbkfhhnhiplkaaDoorRowK
namespace Go.Proofs.YthbkfhhnhiplkaaDoor
open Go.RowKit
/-- append(v, y) -/
theorem wpList_pushX {w : World} {base : Nat} {v : Value} {og : Option Nat} {l : List Int} {ops : Array Oper} {rest : List Oper} {o : Oper} {a : Act} {Q : Exit → Act → World → Prop} (hgd : o.guard = none) (s x : Operand)
    (ho : o.op = .call { callee := .builtin .append, args := #[s, x], argTypes := #[25, 25] }) (hs : a.eval s = v) (hq : RowI w base v og l) (hbase : base ≤ w.heap.size)
    (B c : Nat) (y : Int) (hx : a.eval x = .slice (some ⟨B, 0, none⟩) 1 c) (hB : w.cell? ⟨B, 0, none⟩ = some (.int .i64 y)) (hlen : l.length ≤ 1000000)
    (h : ∀ v' g' w', RowI w' base v' (some g') (l ++ [y]) → ((w.grownBy w' none ∧ w.heap.size ≤ g') ∨ (og = some g' ∧ w.grownBy w' (some g') ∧ ∃ A cap, v = .slice A l.length cap ∧ l.length + 1 ≤ cap)) → wpList Tryd.prog ops Q rest (a.put o.dst v') w') : wpList Tryd.prog ops Q (o :: rest) a w := by
  obtain ⟨i0, hi0, hz0, hz1, hz2⟩ := info_parts infoInt
  have hq0 := hq
  obtain ⟨A, cap, rfl, h2, h3, h4, h5⟩ := hq
  have hnews : ∀ j u, [Value.int .i64 y][j]? = some u → w.cell? ((⟨B, 0, none⟩ : Addr).add j) = some u := fun j u hj => by
    cases j with
    | zero => simp at hj; subst hj; exact hB
    | succ j => simp at hj
  have hone : ∀ u ∈ [Value.int .i64 y], u.oneCell' = true := by simp [Value.oneCell']
  have hgrow : ∀ (v' : Value) (w' : World), w'.ownsRow w.heap.size 3 1 v' (l.length + 1) ((l.map fun b : Int => Value.int .i64 b) ++ [Value.int .i64 y]) → w.grownBy w' none → wpList Tryd.prog ops Q rest (a.put o.dst v') w' := by
    intro v' w' hown hg
    rcases hown.2 with ⟨_, h0⟩ | ⟨g, cap', cur, rfl, hb, hcur, hle, hmax, hsz, htk⟩
    · omega
    · refine h _ g w' ⟨some ⟨g, 0, none⟩, cap', by simp, by simpa using hle, hmax, fun h => (by cases h), fun g' hg' => ?_⟩ (Or.inl ⟨hg, hb⟩)
      obtain rfl : g = g' := by simpa using hg'
      refine ⟨by omega, 0, cur, rfl, hcur, by omega, fun j u hj => ?_⟩
      have hjl : j < l.length + 1 := by
        have := (List.getElem?_eq_some_iff.1 hj).1
        simpa using this
      have e1 : ((l.map fun b : Int => Value.int .i64 b) ++ [Value.int .i64 y]) = (l ++ [y]).map fun b : Int => Value.int .i64 b := by simp
      rw [e1] at htk
      have e2 := congrArg (fun l : List Value => l[j]?) htk
      simp only [List.getElem?_map, hj, Option.map_some, List.getElem?_take] at e2
      rw [if_pos (by omega)] at e2
      simpa using e2
  cases og with
  | none =>
    obtain ⟨rfl, rfl⟩ := h4 rfl
    have hl0 : l = [] := List.eq_nil_of_length_eq_zero (by omega)
    subst hl0
    refine wpList_append_grows w hgd s x 25 ho 3 i0 (.int .i64 0) 1 8 Tryd.underlying25 hi0 hz0 hz1 hz2 rfl (by decide) none 0 0 [] hs (fun _ => ⟨rfl, rfl⟩) rfl (fun _ _ j u hj => by simp at hj)
      ⟨B, 0, none⟩ 1 c [.int .i64 y] hx rfl hnews hone (by omega) (by simp only [maxLen]; omega) (by omega) ?_
    intro v' w' r1 r2
    exact hgrow v' w' (by simpa using r1) r2
  | some g =>
    obtain ⟨hbg, off, cs, rfl, e2, e3, e4⟩ := h5 g rfl
    have holds : ∀ j u, (l.map fun b : Int => Value.int .i64 b)[j]? = some u → w.cell? ⟨g, off + j, none⟩ = some u := fun j u hj => by
      rw [List.getElem?_map] at hj
      obtain ⟨b, hb1, rfl⟩ := Option.map_eq_some_iff.1 hj
      rw [e2.cell]; exact e4 j b hb1
    refine wpList_append_arg w hgd s x 25 ho 3 i0 (.int .i64 0) 1 8 Tryd.underlying25 hi0 hz0 hz1 hz2 rfl (by decide) g off l.length cap (l.map fun b : Int => Value.int .i64 b) hs (by simp) holds
      ⟨B, 0, none⟩ 1 c [.int .i64 y] hx rfl hnews hone ?_ (by simp only [maxLen]; omega) (by omega) ?_ (fun _ => hgrow)
    · intro hroom j hj
      obtain rfl : j = 0 := by simpa using hj
      simp only [Nat.mul_one, Nat.add_zero]
      refine ⟨?_, e2.frozen _⟩
      rw [e2.cell, Array.getElem?_eq_getElem (by omega)]; rfl
    · intro hroom
      have e0 : w.setCells g (off + l.length * 1) [.int .i64 y] = w.setCell ⟨g, off + l.length, none⟩ (.int .i64 y) := by simp [World.setCells]
      rw [e0]
      have hbs := e2.set_ (off + l.length) (.int .i64 y)
      refine h _ g _ ⟨some ⟨g, off, none⟩, cap, by simp, by simpa using hroom, h3, fun h => (by cases h), fun g' hg' => ?_⟩ (Or.inr ⟨rfl, ⟨rfl, rfl, rfl, by simp, fun i hi hne => Below.heap_setCell w _ _ i (fun e => hne (by rw [e]))⟩, _, _, rfl, hroom⟩)
      · obtain rfl : g = g' := by simpa using hg'
        refine ⟨hbg, off, _, rfl, hbs, by simpa using e3, fun j u hj => ?_⟩
        rw [Array.getElem?_setIfInBounds]
        by_cases hjl : j = l.length
        · subst hjl
          rw [if_pos rfl, if_pos (by omega)]
          simp at hj; subst hj; rfl
        · have : j < l.length := by
            have := (List.getElem?_eq_some_iff.1 hj).1
            simp at this; omega
          rw [if_neg (by omega), e4 j u (by rw [← hj, List.getElem?_append_left this])]
/-- a block into which an append goes has more than one cell -/
theorem RowI.more {w : World} {base : Nat} {g : Nat} {A : Option Addr} {n cap : Nat} {l : List Int} (h : RowI w base (.slice A n cap) (some g) l) (h1 : 2 ≤ cap) : ∀ u : Value, ¬ Blk w g 3 #[u] := by
  intro u hu
  obtain ⟨A', cap', e, h2, h3, h4, h5⟩ := h
  injection e with e1 e2 e3
  subst e3
  obtain ⟨_, off, cs, _, q2, q3, _⟩ := h5 g rfl
  have h6 : cs = #[u] := by
    unfold Blk at q2 hu
    rw [q2] at hu
    injection hu with hu
    injection hu
  subst h6
  simp at q3
  omega
end Go.Proofs.YthbkfhhnhiplkaaDoor
