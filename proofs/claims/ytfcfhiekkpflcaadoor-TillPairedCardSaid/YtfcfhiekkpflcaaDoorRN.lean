/- A returned list, by value: it reads as xs in this world, and in those behind it. -/
import Derived.Test.YtfcfhiekkpflcaaDoorSame
namespace Go.Proofs.YtfcfhiekkpflcaaDoor
open Go.RowKit
/-- the slice v reads as xs -/
def RN (w : World) (v : Value) (xs : List Int) : Prop := ∃ A c, v = .slice A xs.length c ∧ RInts w w.heap.size A xs.length xs
def RPN (w : World) (v : Value) (ps : List (Nat × Nat)) : Prop := ∃ A c, v = .slice A ps.length c ∧ RPr w w.heap.size A ps
section
variable {w w' : World} {v u : Value} {xs ys : List Int} {ps qs : List (Nat × Nat)}
theorem RN.next (h : RN w v xs) (hb : Below w.heap.size w w') : RN w' v xs := by
  obtain ⟨A, c, e, hr⟩ := h
  exact ⟨A, c, e, (hr.below hb).more hb.size⟩
theorem RN.alloc (h : RN w v xs) (o : Obj) : RN (w.alloc o) v xs := h.next ((Below.refl _ _).alloc (Nat.le_refl _) _)
theorem RN.new (w : World) (xs : List Int) (n c : Nat) (cs : Array Value) (t : TypeId) (hn : xs.length = n) (hc : cs = intArr xs) : RN (w.alloc (.cells cs t)) (.slice (some ⟨w.heap.size, 0, none⟩) n c) xs := by
  subst hn
  subst hc
  exact ⟨_, _, rfl, RInts.of_blk (Blk.new w t _) rfl⟩
theorem OwnI.rn {base : Nat} (h : OwnI w base v xs) : RN w v xs := h.reads
theorem RPN.next (h : RPN w v ps) (hb : Below w.heap.size w w') : RPN w' v ps := by
  obtain ⟨A, c, e, hr⟩ := h
  exact ⟨A, c, e, fun hn => by
    obtain ⟨g, e2, hg, hc⟩ := hr.below hb hn
    exact ⟨g, e2, Nat.lt_of_lt_of_le hg hb.size, hc⟩⟩
theorem RPN.alloc (h : RPN w v ps) (o : Obj) : RPN (w.alloc o) v ps := h.next ((Below.refl _ _).alloc (Nat.le_refl _) _)
theorem OwnP.rpn {base : Nat} (h : OwnP w base v ps) : RPN w v ps := h.reads
theorem RPN.new (w : World) (ps : List (Nat × Nat)) (n c : Nat) (cs : Array Value) (t : TypeId) (hn : ps.length = n) (hc : cs = (pairsV ps).toArray) : RPN (w.alloc (.cells cs t)) (.slice (some ⟨w.heap.size, 0, none⟩) n c) ps := by
  subst hn
  subst hc
  refine ⟨_, _, rfl, fun _ => ⟨_, rfl, by simp, fun i x y hi => ?_⟩⟩
  obtain ⟨h1, h2⟩ := pairsV_at ps i x y hi
  rw [(Blk.new w t (pairsV ps).toArray).cell, (Blk.new w t (pairsV ps).toArray).cell]
  exact ⟨by simpa using h1, by simpa using h2⟩
theorem same_rn (h : RN w v xs) (h2 : RN w u ys) (hn : xs.length ≤ 1000000) (hm : ys.length ≤ 1000000) : Calls Tryd.prog 20 #[v, u] w fun e w' => e = .returned (.bool (xs == ys)) ∧ Below w.heap.size w w' := by
  obtain ⟨A, c, rfl, hr⟩ := h
  obtain ⟨B, d, rfl, hr2⟩ := h2
  refine (same_any A B _ _ c d xs ys w w.heap.size hr hr2 (by simp only [maxLen]; omega) (by simp only [maxLen]; omega)).mono ?_
  rintro e w' ⟨rfl, q, rfl⟩
  exact ⟨rfl, below_drewN (Below.refl _ _) q⟩
theorem pairs_rn (h : RPN w v ps) (h2 : RPN w u qs) (hn : ps.length ≤ 1000000) (hm : qs.length ≤ 1000000) : Calls Tryd.prog 39 #[v, u] w fun e w' => e = .returned (.bool (ps == qs)) ∧ Below w.heap.size w w' := by
  obtain ⟨A, c, rfl, hr⟩ := h
  obtain ⟨B, d, rfl, hr2⟩ := h2
  refine (pairs_any A B c d ps qs w w.heap.size hr hr2 hn hm).mono ?_
  rintro e w' ⟨rfl, q, rfl⟩
  exact ⟨rfl, below_drewN (Below.refl _ _) q⟩
end
end Go.Proofs.YtfcfhiekkpflcaaDoor
