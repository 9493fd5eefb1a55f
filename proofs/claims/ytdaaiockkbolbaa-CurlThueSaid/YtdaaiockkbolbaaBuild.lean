/- A builder that is written byte by byte, with all that its writing leaves alone. -/
import Derived.Test.YtdaaiockkbolbaaShelf
import Derived.Test.YtdaaiockkbolbaaRow
namespace Go.Proofs.Ytdaaiockkbolbaa
open Go.RowKit
/-- a builder that holds the bytes l, in the blocks O -/
def BldO (b : Nat) (O : Nat → Prop) (l : Word) (w : World) : Prop :=
  ∃ p v, (p = .pointer none ∨ p = .pointer (some ⟨b, 0, none⟩)) ∧ w.heap[b]? = some (.cells #[p, v] 81 (0, 0)) ∧ w.ownsRow b 5 1 v l.length (Lib.byteCells l) ∧ v.ownBlock ≠ some b ∧ ∀ i, O i ↔ i = b ∨ v.ownBlock = some i
theorem BldO.new (w : World) : BldO w.heap.size (fun i => i = w.heap.size) [] (w.alloc (.cells #[.pointer none, .slice none 0 0] 81 (0, 0))) :=
  ⟨_, _, Or.inl rfl, Blk.new w _ _, World.ownsRow_nil _ _ _ _, by simp [Value.ownBlock], fun i => by simp [Value.ownBlock]⟩
theorem BldO.lt {b : Nat} {O : Nat → Prop} {l : Word} {w : World} (h : BldO b O l w) (i : Nat) (hi : O i) : i < w.heap.size := by
  obtain ⟨p, v, hp, hb, ho, hne, hO⟩ := h
  rcases (hO i).1 hi with rfl | hi
  · rcases Nat.lt_or_ge i w.heap.size with h | h
    · exact h
    · rw [Array.getElem?_eq_none h] at hb; cases hb
  · exact (World.ownsRow.lt ho i hi).2
theorem BldO.keep {b : Nat} {O : Nat → Prop} {l : Word} {w w' : World} (h : BldO b O l w) (hk : ∀ i, O i → w'.heap[i]? = w.heap[i]?) : BldO b O l w' := by
  obtain ⟨p, v, hp, hb, ho, hne, hO⟩ := h
  refine ⟨p, v, hp, (hk b ((hO b).2 (Or.inl rfl))).trans hb, ⟨ho.1, ?_⟩, hne, hO⟩
  rcases ho.2 with h0 | ⟨g, cap, cur, rfl, hb2, hg, r⟩
  · exact .inl h0
  · exact .inr ⟨g, cap, cur, rfl, hb2, (hk g ((hO g).2 (Or.inr rfl))).trans hg, r⟩
theorem BldO.is {b : Nat} {O : Nat → Prop} {l : Word} {w : World} (h : BldO b O l w) : Lib.IsBuilder 81 5 b b (Lib.byteCells l) w := by
  obtain ⟨p, v, hp, hb, ho, hne, hO⟩ := h
  have e : (Lib.byteCells l).length = l.length := by simp [Lib.byteCells]
  rcases hp with rfl | rfl
  · exact Or.inl ⟨Nat.le_refl _, v, hb, by rw [e]; exact ho, hne⟩
  · exact Or.inr ⟨Nat.le_refl _, v, hb, by rw [e]; exact ho, hne⟩
theorem own_fr {w w' : World} {S : Nat → Prop} {base : Nat} {v : Value} {n : Nat} {xs : List Value} (h : w.ownsRow base 5 1 v n xs) (hF : Fr S w w') (hS : ∀ g, v.ownBlock = some g → ¬ S g) : w'.ownsRow base 5 1 v n xs := by
  refine ⟨h.1, ?_⟩
  rcases h.2 with h0 | ⟨g, cap, cur, rfl, hb2, hg, r⟩
  · exact .inl h0
  · exact .inr ⟨g, cap, cur, rfl, hb2, (hF.block g (World.ownsRow.lt h g rfl).2 (hS g rfl)).trans hg, r⟩
theorem copyCheck_fine (b : Nat) (p v : Value) (w : World) (hp : p = .pointer none ∨ p = .pointer (some ⟨b, 0, none⟩)) (hb : w.heap[b]? = some (.cells #[p, v] 81 (0, 0))) :
    Calls Try.prog 83 #[.pointer (some ⟨b, 0, none⟩)] w fun e w' => e = .returned (.tuple #[]) ∧ w'.heap[b]? = some (.cells #[.pointer (some ⟨b, 0, none⟩), v] 81 (0, 0)) ∧ Fr (fun i => i = b) w w' := by
  have c0 : w.cell? ⟨b, 0, none⟩ = some p := by rw [Lib.cell_of_heap hb]; rfl
  rcases hp with rfl | rfl
  · refine (Any.Builder_copyCheck_fresh (ρ := Try.lays167_ren) { Try.lays167 with } Try.Builder_Extra_167.toX72 b w c0 (by simp [World.shape?, hb]; rfl) (Lib.frozen_of_heap hb 0)).mono ?_
    rintro e w' ⟨rfl, rfl⟩
    exact ⟨rfl, by simp [World.setCell, Array.getElem?_modify, hb], rfl, rfl, rfl, by simp, fun i _ hi => Below.heap_setCell w _ _ i hi⟩
  · refine (Any.Builder_copyCheck_used (ρ := Try.lays167_ren) { Try.lays167 with } Try.Builder_Extra_167.toX72 b w c0).mono ?_
    rintro e w' ⟨rfl, rfl⟩
    exact ⟨rfl, hb, Fr.refl _ _⟩
set_option maxRecDepth 100000 in
set_option maxHeartbeats 4000000 in
theorem writeByte_fine (b : Nat) (O : Nat → Prop) (l : Word) (c : UInt8) (w : World) (h : BldO b O l w) (hl : l.length ≤ 1000000) :
    Calls Try.prog 57 #[.pointer (some ⟨b, 0, none⟩), .int .u8 (c.toNat : Int)] w fun e w' => ∃ O', e = .returned .nilIface ∧ BldO b O' (l ++ [c]) w' ∧ Fr O w w' ∧ ∀ i, O' i → O i ∨ w.heap.size ≤ i := by
  have hlt := h.lt
  obtain ⟨p, v, hp, hb, ho, hne, hO⟩ := h
  obtain ⟨i0, hi0, hz0, hz1, hz2⟩ := info_parts infoU8
  go_enter Try.func57, Try.ntmps57
  go_wp2_with (first
    | (go_at_call 83; refine (copyCheck_fine b p v _ hp hb).mono ?_; rintro e w1 ⟨rfl, hb1, hF1⟩
       have c1 : w1.cell? ⟨b, 1, none⟩ = some v := by (rw [Lib.cell_of_heap hb1]; rfl)
       have ho1 := own_fr ho hF1 (fun g hg e => hne (by rw [hg, e]))
       have hbl1 : b < w1.heap.size := Blk.lt hb1)
    | (at_builtin
       refine wpList_append_lies _ rfl _ _ 55 rfl b 5 i0 (.int .u8 0) 1 1 Try.underlying55 hi0 hz0 hz1 hz2 rfl (by decide) v l.length (Lib.byteCells l) rfl (ho1.alloc _) ⟨w1.heap.size, 0, none⟩ 1 1 [.int .u8 (c.toNat : Int)] rfl rfl
         (World.news_of_block (Blk.new w1 5 #[.int .u8 (c.toNat : Int)])) (by simp [Value.oneCell']) (by decide) (by simp only [maxLen]; omega) (by omega) (by simp; omega) _ rfl ?_
       intro g cap w2 hown2 hgr hat hlt2
       have hb2 : w2.heap[b]? = some (.cells #[.pointer (some ⟨b, 0, none⟩), v] 81 (0, 0)) := by
         rw [hgr.block b (by simp; omega) (fun e => hne e.symm), Lib.alloc_old w1 _ b hbl1]
         exact hb1
       have d1 : w2.cell? ⟨b, 1, none⟩ = some v := by (rw [Lib.cell_of_heap hb2]; rfl)
       have f1 : w2.frozen? ⟨b, 1, none⟩ = false := Lib.frozen_of_heap hb2 1))
  go_ret
  have hgb : g ≠ b := by
    rcases hat with h | h
    · intro e; subst e; exact hne h
    · simp at h; omega
  have hFs : Fr (fun i => i = b) w2 (w2.setCell ⟨b, 1, none⟩ (.slice (some ⟨g, 0, none⟩) (l.length + 1) cap)) := ⟨rfl, rfl, rfl, by simp, fun i _ hi => Below.heap_setCell w2 _ _ i hi⟩
  have hown3 := own_fr hown2 hFs (fun g' hg e => hgb (by simpa [Value.ownBlock] using hg.trans (congrArg some e)))
  have ha : (w1.alloc (.cells #[.int .u8 (c.toNat : Int)] 5)).heap.size = w1.heap.size + 1 := by simp
  refine ⟨fun i => i = b ∨ g = i, rfl, ⟨_, .slice (some ⟨g, 0, none⟩) (l.length + 1) cap, Or.inr rfl, by simp [World.setCell, Array.getElem?_modify, hb2], ?_, by simp [Value.ownBlock, hgb], fun i => by simp [Value.ownBlock]⟩, ⟨hgr.os.trans hF1.os, hgr.tape.trans hF1.tape, hgr.output.trans hF1.output, ?_, fun i hi hS => ?_⟩, fun i hi => ?_⟩
  · rw [List.length_append]
    have e : Lib.byteCells (l ++ [c]) = Lib.byteCells l ++ [.int .u8 (c.toNat : Int)] := by simp [Lib.byteCells]
    rw [e]
    exact hown3
  · have h1 := hF1.size
    have h2 := hgr.size
    have h3 := hFs.size
    omega
  · have hi1 : i ≠ b := fun e => hS ((hO i).2 (Or.inl e))
    have hi2 : v.ownBlock ≠ some i := fun e => hS ((hO i).2 (Or.inr e))
    have h1 := hF1.size
    rw [Below.heap_setCell w2 _ _ i hi1, hgr.block i (by omega) (fun e => hi2 e.symm), Lib.alloc_old w1 _ i (by omega)]
    exact hF1.block i hi hi1
  · rcases hi with hi | hi
    · exact Or.inl ((hO i).2 (Or.inl hi))
    · rcases hat with h | h
      · exact Or.inl ((hO i).2 (Or.inr (by rw [h, hi])))
      · have h1 := hF1.size
        right; omega
end Go.Proofs.Ytdaaiockkbolbaa
