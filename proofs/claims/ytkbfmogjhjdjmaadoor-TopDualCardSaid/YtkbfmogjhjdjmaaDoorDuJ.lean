/- Points compared; the law's line. -/
import Derived.Test.YtkbfmogjhjdjmaaDoorDuI
namespace Go.Proofs.YtkbfmogjhjdjmaaDoor
open Go.RowKit
namespace Du
set_option linter.unusedSimpArgs false
set_option maxRecDepth 100000 in
theorem eq_pt (p q : Pt) (w : World) : (Op.equalIn 10000 35 (ptV p) (ptV q)).run Tryd.prog w = .ok (decide (p = q)) w := by
  obtain ⟨a, b⟩ := p
  obtain ⟨x, y⟩ := q
  unfold ptV
  by_cases h1 : a = x
  · by_cases h2 : b = y
    · subst h1 h2
      have e : decide ((a, b) = (a, b)) = true := by simp
      rw [e]
      go_simp
    · have e : decide ((a, b) = (x, y)) = false := by simp [h2]
      rw [e]
      go_simp
  · have e : decide ((a, b) = (x, y)) = false := by simp [h1]
    rw [e]
    go_simp
end Du
end Go.Proofs.YtkbfmogjhjdjmaaDoor
