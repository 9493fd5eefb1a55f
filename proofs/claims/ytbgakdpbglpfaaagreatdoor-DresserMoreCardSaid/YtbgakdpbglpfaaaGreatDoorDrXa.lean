/- The methods of a book that is none. (Printed by gennone.py.) -/
import Derived.Test.YtbgakdpbglpfaaaGreatDoorDrWi
namespace Go.Proofs.YtbgakdpbglpfaaaGreatDoor
open Go.RowKit
namespace Dr
set_option linter.unusedSimpArgs false
/-- no book, or one without a house -/
def NoneAt (w : World) (vb : Value) : Prop := vb = .pointer none ∨ ∃ g, vb = .pointer (some ⟨g, 0, none⟩) ∧ w.cell? ⟨g, 0, none⟩ = some (.pointer none)
section
variable {w w' : World} {vb : Value}
theorem NoneAt.below (h : NoneAt w vb) (hb : Below w.heap.size w w') : NoneAt w' vb := by
  rcases h with rfl | ⟨g, rfl, hc⟩
  · exact Or.inl rfl
  · exact Or.inr ⟨g, rfl, (hb.cell (p := ⟨g, 0, none⟩) (lt_cell hc)).trans hc⟩
end
end Dr
end Go.Proofs.YtbgakdpbglpfaaaGreatDoor
