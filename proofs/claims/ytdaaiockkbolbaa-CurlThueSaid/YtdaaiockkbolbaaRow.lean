/- Slices of bytes that are appended to, level by level: what they read as, and what an append leaves alone. -/
import Derived.Test.YtdaaiockkbolbaaProg
import Derived.Test.YtdaaiockkbolbaaWords
import Derived.ArgAppend
import Derived.Laws.IdiomStrings
namespace Go.Proofs.Ytdaaiockkbolbaa
open Go.RowKit
theorem infoU8 : (Try.prog.info? 5).map (fun i => (i.zero, i.size, i.bytes)) = some (some (.int .u8 0), 1, 1) := by kernel_rfl
/-- a block of bytes of which no cell is frozen -/
def BlkB (w : World) (g : Nat) (cs : Array Value) : Prop := ∃ fr : Nat × Nat, w.heap[g]? = some (.cells cs 5 fr) ∧ (fr = (0, 0) ∨ cs.size ≤ fr.1)
/-- all but some blocks stand -/
structure Fr (S : Nat → Prop) (w w' : World) : Prop where
  os : w'.os = w.os
  tape : w'.tape = w.tape
  output : w'.output = w.output
  size : w.heap.size ≤ w'.heap.size
  block : ∀ i, i < w.heap.size → ¬ S i → w'.heap[i]? = w.heap[i]?
section
variable {w w' w'' : World} {g : Nat} {cs : Array Value} {S S' : Nat → Prop}
theorem Fr.refl (S : Nat → Prop) (w : World) : Fr S w w := ⟨rfl, rfl, rfl, Nat.le_refl _, fun _ _ _ => rfl⟩
theorem Fr.of_below {B : Nat} (h : Below B w w') : Fr (fun i => B ≤ i) w w' := ⟨h.os, h.tape, h.output, h.size, fun i _ h2 => h.block i (by omega)⟩
theorem Fr.below {B : Nat} (h : Fr S w w') (hS : ∀ i, i < B → i < w.heap.size ∧ ¬ S i) : Below B w w' := ⟨h.os, h.tape, h.output, h.size, fun i hi => h.block i (hS i hi).1 (hS i hi).2⟩
theorem BlkB.lt (h : BlkB w g cs) : g < w.heap.size := by
  obtain ⟨fr, h, _⟩ := h
  rcases Nat.lt_or_ge g w.heap.size with hlt | hge
  · exact hlt
  · rw [Array.getElem?_eq_none hge] at h; cases h
theorem BlkB.cell (h : BlkB w g cs) (i : Nat) : w.cell? ⟨g, i, none⟩ = cs[i]? := by
  obtain ⟨fr, h, _⟩ := h
  exact cell_of_row w g i cs 5 fr h
theorem BlkB.frozen (h : BlkB w g cs) {i : Nat} (hi : i < cs.size) : w.frozen? ⟨g, i, none⟩ = false := by
  obtain ⟨⟨lo, hi'⟩, h, hf⟩ := h
  simp only [World.frozen?, h]
  rcases hf with hf | hf
  · simp only [Prod.mk.injEq] at hf
    obtain ⟨rfl, rfl⟩ := hf
    simp
  · have : cs.size ≤ lo := hf
    simp; omega
theorem BlkB.same (h : BlkB w g cs) (hb : w'.heap[g]? = w.heap[g]?) : BlkB w' g cs := by
  obtain ⟨fr, h1, h2⟩ := h
  exact ⟨fr, hb.trans h1, h2⟩
theorem BlkB.set_ (h : BlkB w g cs) (i : Nat) (u : Value) : BlkB (w.setCell ⟨g, i, none⟩ u) g (cs.setIfInBounds i u) := by
  obtain ⟨fr, h1, h2⟩ := h
  exact ⟨fr, by simp [World.setCell, Array.getElem?_modify, h1], by simpa using h2⟩
/-- the slice v reads as l; its array lies in block g -/
def Row8 (w : World) (v : Value) (og : Option Nat) (l : Word) : Prop :=
  ∃ A cap, v = .slice A l.length cap ∧ l.length ≤ cap ∧ cap ≤ maxLen ∧ (og = none → cap = 0 ∧ A = none) ∧
    ∀ g, og = some g → ∃ off cs, A = some ⟨g, off, none⟩ ∧ BlkB w g cs ∧ off + cap = cs.size ∧ ∀ (j : Nat) (b : UInt8), l[j]? = some b → cs[off + j]? = some (.int .u8 (b.toNat : Int))
variable {v : Value} {og : Option Nat} {l : Word}
theorem Row8.nil (w : World) : Row8 w (.slice none 0 0) none [] := ⟨none, 0, rfl, Nat.le_refl _, by decide, fun _ => ⟨rfl, rfl⟩, fun g h => by cases h⟩
theorem Row8.same (h : Row8 w v og l) (hb : ∀ g, og = some g → w'.heap[g]? = w.heap[g]?) : Row8 w' v og l := by
  obtain ⟨A, cap, h1, h2, h3, h4, h5⟩ := h
  refine ⟨A, cap, h1, h2, h3, h4, fun g hg => ?_⟩
  obtain ⟨off, cs, e1, e2, e3, e4⟩ := h5 g hg
  exact ⟨off, cs, e1, e2.same (hb g hg), e3, e4⟩
theorem Row8.lt (h : Row8 w v og l) {g : Nat} (hg : og = some g) : g < w.heap.size := by
  obtain ⟨A, cap, h1, h2, h3, h4, h5⟩ := h
  obtain ⟨off, cs, e1, e2, _⟩ := h5 g hg
  exact e2.lt
/-- string(v) -/
theorem Row8.str (h : Row8 w v og l) (src dst : TypeId) (hs : Try.prog.underlying src = some (.slice 5)) (hd : Try.prog.underlying dst = some .string) : (convert src dst v).run Try.prog w = .ok (.string ⟨l.toArray⟩) w := by
  obtain ⟨A, cap, rfl, h2, h3, h4, h5⟩ := h
  cases og with
  | none =>
    obtain ⟨rfl, rfl⟩ := h4 rfl
    have : l = [] := List.eq_nil_of_length_eq_zero (by omega)
    subst this
    exact run_convert_bytes_nil w src 5 hs Try.underlying5 0 0 dst hd
  | some g =>
    obtain ⟨off, cs, rfl, e2, e3, e4⟩ := h5 g rfl
    refine run_convert_bytes_back w src dst 5 ⟨g, off, none⟩ cap l hs Try.underlying5 hd fun j hj => ?_
    rw [Addr.add_lit, e2.cell]
    exact e4 j l[j] (List.getElem?_eq_getElem hj)
/-- the slice one shorter in the same array -/
theorem Row8.pre {A : Option Addr} {n cap : Nat} {y : UInt8} {g : Nat} (h : Row8 w (.slice A (n + 1) cap) (some g) (l ++ [y])) : Row8 w (.slice A l.length cap) (some g) l := by
  obtain ⟨A', cap', e1, h2, h3, h4, h5⟩ := h
  simp only [Value.slice.injEq] at e1
  obtain ⟨rfl, e2, rfl⟩ := e1
  simp only [List.length_append, List.length_cons, List.length_nil] at h2 e2
  refine ⟨_, _, rfl, by omega, h3, fun h => (by cases h), fun g' hg' => ?_⟩
  obtain ⟨off, cs, a1, a2, a3, a4⟩ := h5 g' hg'
  exact ⟨off, cs, a1, a2, a3, fun j b hj => a4 j b (by rw [List.getElem?_append_left (List.getElem?_eq_some_iff.1 hj).1]; exact hj)⟩
/-- append(v, y) -/
theorem wpList_push8 {ops : Array Oper} {rest : List Oper} {o : Oper} {a : Act} {Q : Exit → Act → World → Prop} (hgd : o.guard = none) (s x : Operand)
    (ho : o.op = .call { callee := .builtin .append, args := #[s, x], argTypes := #[55, 55] }) (hs : a.eval s = v) (hq : Row8 w v og l)
    (B c : Nat) (y : UInt8) (hx : a.eval x = .slice (some ⟨B, 0, none⟩) 1 c) (hB : w.cell? ⟨B, 0, none⟩ = some (.int .u8 (y.toNat : Int))) (hlen : l.length ≤ 1000000)
    (h : ∀ v' g' w', Row8 w' v' (some g') (l ++ [y]) → Row8 w' v og l → (og = some g' → ∀ w'', Row8 w'' v' (some g') (l ++ [y]) → Row8 w'' v og l) → (og = some g' ∨ w.heap.size ≤ g') → Fr (fun i => og = some i) w w' → wpList Try.prog ops Q rest (a.put o.dst v') w') : wpList Try.prog ops Q (o :: rest) a w := by
  obtain ⟨i0, hi0, hz0, hz1, hz2⟩ := info_parts infoU8
  have hq0 := hq
  obtain ⟨A, cap, rfl, h2, h3, h4, h5⟩ := hq
  have hnews : ∀ j u, [Value.int .u8 (y.toNat : Int)][j]? = some u → w.cell? ((⟨B, 0, none⟩ : Addr).add j) = some u := fun j u hj => by
    cases j with
    | zero => simp at hj; subst hj; exact hB
    | succ j => simp at hj
  have hone : ∀ u ∈ [Value.int .u8 (y.toNat : Int)], u.oneCell' = true := by simp [Value.oneCell']
  have hgrow : ∀ (v' : Value) (w' : World), w'.ownsRow w.heap.size 5 1 v' (l.length + 1) ((l.map fun b : UInt8 => Value.int .u8 (b.toNat : Int)) ++ [Value.int .u8 (y.toNat : Int)]) → w.grownBy w' none → wpList Try.prog ops Q rest (a.put o.dst v') w' := by
    intro v' w' hown hg
    rcases hown.2 with ⟨_, h0⟩ | ⟨g, cap', cur, rfl, hb, hcur, hle, hmax, hsz, htk⟩
    · omega
    · refine h _ g w' ⟨some ⟨g, 0, none⟩, cap', by simp, by simpa using hle, hmax, fun h => (by cases h), fun g' hg' => ?_⟩ (hq0.same fun g' hg' => hg.block g' (hq0.lt hg') (by simp)) (fun e => by have := hq0.lt e; omega) (Or.inr hb)
        ⟨hg.os, hg.tape, hg.output, hg.size, fun i hi _ => hg.block i hi (by simp)⟩
      obtain rfl : g = g' := by simpa using hg'
      refine ⟨0, cur, rfl, ⟨(0, 0), hcur, Or.inl rfl⟩, by omega, fun j u hj => ?_⟩
      have hjl : j < l.length + 1 := by
        have := (List.getElem?_eq_some_iff.1 hj).1
        simpa using this
      have e1 : ((l.map fun b : UInt8 => Value.int .u8 (b.toNat : Int)) ++ [Value.int .u8 (y.toNat : Int)]) = (l ++ [y]).map fun b : UInt8 => Value.int .u8 (b.toNat : Int) := by simp
      rw [e1] at htk
      have e2 := congrArg (fun l : List Value => l[j]?) htk
      simp only [List.getElem?_map, hj, Option.map_some, List.getElem?_take] at e2
      rw [if_pos (by omega)] at e2
      simpa using e2
  cases og with
  | none =>
    obtain ⟨rfl, rfl⟩ := h4 rfl
    have hl0 : l = [] := List.eq_nil_of_length_eq_zero (by omega)
    subst hl0
    refine wpList_append_grows w hgd s x 55 ho 5 i0 (.int .u8 0) 1 1 Try.underlying55 hi0 hz0 hz1 hz2 rfl (by decide) none 0 0 [] hs (fun _ => ⟨rfl, rfl⟩) rfl (fun _ _ j u hj => by simp at hj)
      ⟨B, 0, none⟩ 1 c [.int .u8 (y.toNat : Int)] hx rfl hnews hone (by omega) (by simp only [maxLen]; omega) (by omega) ?_
    intro v' w' r1 r2
    exact hgrow v' w' (by simpa using r1) r2
  | some g =>
    obtain ⟨off, cs, rfl, e2, e3, e4⟩ := h5 g rfl
    have holds : ∀ j u, (l.map fun b : UInt8 => Value.int .u8 (b.toNat : Int))[j]? = some u → w.cell? ⟨g, off + j, none⟩ = some u := fun j u hj => by
      rw [List.getElem?_map] at hj
      obtain ⟨b, hb1, rfl⟩ := Option.map_eq_some_iff.1 hj
      rw [e2.cell]; exact e4 j b hb1
    refine wpList_append_arg w hgd s x 55 ho 5 i0 (.int .u8 0) 1 1 Try.underlying55 hi0 hz0 hz1 hz2 rfl (by decide) g off l.length cap (l.map fun b : UInt8 => Value.int .u8 (b.toNat : Int)) hs (by simp) holds
      ⟨B, 0, none⟩ 1 c [.int .u8 (y.toNat : Int)] hx rfl hnews hone ?_ (by simp only [maxLen]; omega) (by omega) ?_ (fun _ => hgrow)
    · intro hroom j hj
      obtain rfl : j = 0 := by simpa using hj
      simp only [Nat.mul_one, Nat.add_zero]
      refine ⟨?_, e2.frozen (by omega)⟩
      rw [e2.cell, Array.getElem?_eq_getElem (by omega)]; rfl
    · intro hroom
      have e0 : w.setCells g (off + l.length * 1) [.int .u8 (y.toNat : Int)] = w.setCell ⟨g, off + l.length, none⟩ (.int .u8 (y.toNat : Int)) := by simp [World.setCells]
      rw [e0]
      have hbs := e2.set_ (off + l.length) (.int .u8 (y.toNat : Int))
      refine h _ g _ ⟨some ⟨g, off, none⟩, cap, by simp, by simpa using hroom, h3, fun h => (by cases h), fun g' hg' => ?_⟩ ⟨_, cap, rfl, h2, h3, fun h => (by cases h), fun g' hg' => ?_⟩ (fun _ w'' hw => hw.pre) (Or.inl rfl)
        ⟨rfl, rfl, rfl, by simp, fun i hi hne => Below.heap_setCell w _ _ i (fun e => hne (by rw [e]))⟩
      · obtain rfl : g = g' := by simpa using hg'
        refine ⟨off, _, rfl, hbs, by simpa using e3, fun j u hj => ?_⟩
        rw [Array.getElem?_setIfInBounds]
        by_cases hjl : j = l.length
        · subst hjl
          rw [if_pos rfl, if_pos (by omega)]
          simp at hj; subst hj; rfl
        · have : j < l.length := by
            have := (List.getElem?_eq_some_iff.1 hj).1
            simp at this; omega
          rw [if_neg (by omega), e4 j u (by rw [← hj, List.getElem?_append_left this])]
      · obtain rfl : g = g' := by simpa using hg'
        refine ⟨off, _, rfl, hbs, by simpa using e3, fun j u hj => ?_⟩
        have : j < l.length := (List.getElem?_eq_some_iff.1 hj).1
        rw [Array.getElem?_setIfInBounds, if_neg (by omega), e4 j u hj]
end
end Go.Proofs.Ytdaaiockkbolbaa
