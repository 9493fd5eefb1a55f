/- The texts BuP to BuC, joined by joinlist.py: their statements say what each proves. -/
import Derived.Test.YtbgakdpbglpfaaaGreatDoorKit
import Derived.Test.YtbgakdpbglpfaaaGreatDoorProg
import Derived.Deep.RegionHeld3
import Derived.BigQuiet
import Derived.Shelf.Abstract
import Derived.Test.YtbgakdpbglpfaaaGreatDoorJpu
-- the text BuP
namespace Go.Proofs.YtbgakdpbglpfaaaGreatDoor
end Go.Proofs.YtbgakdpbglpfaaaGreatDoor
-- the text BuT
namespace Go.Proofs.YtbgakdpbglpfaaaGreatDoor
open Go.RowKit
section
variable {w w' : World} {g : Nat}
theorem cell_keep {p : Nat} {o : Nat} (hk : w'.heap[p]? = w.heap[p]?) : w'.cell? ⟨p, o, none⟩ = w.cell? ⟨p, o, none⟩ := by
  unfold World.cell?
  rw [hk]
end
/-- the cells that the closure reads -/
def ClC (w : World) (g g3 g4 g5 f m : Nat) : Prop := w.cell? ⟨g3, 0, none⟩ = some (.pointer (some ⟨g, 0, none⟩)) ∧ w.cell? ⟨g4, 0, none⟩ = some (.int .i64 (f : Int)) ∧ w.cell? ⟨g5, 0, none⟩ = some (.int .i64 (m : Int)) ∧ g3 ≠ g ∧ g4 ≠ g ∧ g5 ≠ g ∧ g3 < w.heap.size ∧ g4 < w.heap.size ∧ g5 < w.heap.size
theorem ClC.next {w w' : World} {g g3 g4 g5 f m : Nat} (h : ClC w g g3 g4 g5 f m) (hg : w.grownBy w' (some g)) : ClC w' g g3 g4 g5 f m := by
  obtain ⟨a1, a2, a3, b1, b2, b3, c1, c2, c3⟩ := h
  have k : ∀ p, p ≠ g → p < w.heap.size → w'.heap[p]? = w.heap[p]? := fun p h1 h2 => hg.block p h2 (fun e => h1 (by injection e))
  exact ⟨(cell_keep (k _ b1 c1)).trans a1, (cell_keep (k _ b2 c2)).trans a2, (cell_keep (k _ b3 c3)).trans a3, b1, b2, b3, Nat.lt_of_lt_of_le c1 hg.size, Nat.lt_of_lt_of_le c2 hg.size, Nat.lt_of_lt_of_le c3 hg.size⟩
end Go.Proofs.YtbgakdpbglpfaaaGreatDoor
-- the text BuC
namespace Go.Proofs.YtbgakdpbglpfaaaGreatDoor
open Go.RowKit
namespace Bu
/-- a division, as a list of numbers -/
structure Div (xs : List Nat) : Prop where
  pos : ∀ x ∈ xs, 1 ≤ x ∧ x ≤ 30
  desc : xs.Pairwise (fun a b => b ≤ a)
  sum : xs.sum ≤ 30
def natI (xs : List Nat) : List Int := xs.map fun x : Nat => (x : Int)
theorem natI_at {xs : List Nat} {i : Nat} {z : Int} (h : (natI xs)[i]? = some z) : ∃ x, xs[i]? = some x ∧ z = (x : Int) := by
  unfold natI at h
  rw [List.getElem?_map] at h
  cases hx : xs[i]? with
  | none => rw [hx] at h; cases h
  | some x => rw [hx] at h; exact ⟨x, rfl, by simpa using h.symm⟩
theorem sum_take {xs : List Nat} {i x : Nat} (h : xs[i]? = some x) : (xs.take (i + 1)).sum = (xs.take i).sum + x := by
  rw [List.take_add_one, h, Option.toList_some, List.sum_append]
  simp
theorem Div.len {xs : List Nat} (h : Div xs) : xs.length ≤ 30 := by
  have : ∀ l : List Nat, (∀ x ∈ l, 1 ≤ x ∧ x ≤ 30) → l.length ≤ l.sum := by
    intro l
    induction l with
    | nil => intro _; simp
    | cons a l ih =>
      intro h
      have h1 := h a (by simp)
      have h2 := ih fun x hx => h x (by simp [hx])
      simp only [List.length_cons, List.sum_cons]
      omega
  have h1 := this xs h.pos
  have h2 := h.sum
  omega
end Bu
end Go.Proofs.YtbgakdpbglpfaaaGreatDoor
