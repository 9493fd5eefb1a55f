/- bunch's Number, turned, Turn. -/
import Derived.Test.YtkbfmogjhjdjmaaDoorBuC
namespace Go.Proofs.YtkbfmogjhjdjmaaDoor
open Go.RowKit
theorem pV_next (f m : Nat) : pV f m ≤ pV f (m + 1) := by
  by_cases h : m + 1 ≤ f
  · rw [pV_step (m := m + 1) (by omega) h, Nat.add_sub_cancel]
    omega
  · rw [← pV_min f m, ← pV_min f (m + 1), show min m f = min (m + 1) f by omega]
    exact Nat.le_refl _
theorem pV_mono (f : Nat) {a b : Nat} (h : a ≤ b) : pV f a ≤ pV f b := by
  obtain ⟨d, rfl⟩ : ∃ d, b = a + d := ⟨b - a, by omega⟩
  clear h
  induction d with
  | zero => exact Nat.le_refl _
  | succ d ih => exact Nat.le_trans ih (pV_next f (a + d))
namespace Bu
theorem numD_le (xs : List Nat) : ∀ left m, xs.Pairwise (fun a b => b ≤ a) → (∀ x ∈ xs, 1 ≤ x ∧ x ≤ m) → xs.sum ≤ left → numD xs left ≤ pV left m := by
  induction xs with
  | nil => intro left m _ _ _; exact Nat.zero_le _
  | cons x r ih =>
    intro left m hd hp hs
    rw [List.pairwise_cons] at hd
    rw [List.sum_cons] at hs
    have hx := hp x (by simp)
    have h1 := ih (left - x) x hd.2 (fun y hy => ⟨(hp y (by simp [hy])).1, hd.1 y hy⟩) (by omega)
    have h2 := pV_step (f := left) (m := x) (by omega) (by omega)
    have h3 := pV_mono left hx.2
    rw [numD]
    omega
theorem OwnI_empty (w : World) : OwnI (w.alloc (.cells #[] 3)) w.heap.size (.slice (some ⟨w.heap.size, 0, none⟩) 0 0) [] := by
  refine ⟨rfl, Or.inr ⟨w.heap.size, 0, #[], rfl, Nat.le_refl _, Blk.new w 3 #[], Nat.le_refl _, ?_, ?_, ?_⟩⟩ <;> simp [maxLen, ints]
theorem natI_append (xs ys : List Nat) : natI (xs ++ ys) = natI xs ++ natI ys := by simp [natI]
end Bu
end Go.Proofs.YtkbfmogjhjdjmaaDoor
