/- The texts BuP to BuC, joined by joinlist.py: their statements say what each proves. -/
import Derived.Test.YtbgakdpbglpfaaaGreatDoorKit
import Derived.Test.YtbgakdpbglpfaaaGreatDoorProg
import Derived.Deep.RegionHeld3
import Derived.BigQuiet
import Derived.Shelf.Abstract
import Derived.Test.YtbgakdpbglpfaaaGreatDoorJpu
-- the text BuP
namespace Go.Proofs.YtbgakdpbglpfaaaGreatDoor
def pF : Nat → Nat → Nat → Nat
  | 0, _, _ => 0
  | d + 1, f, m => if f = 0 then 1 else if min m f = 0 then 0 else pF d f (min m f - 1) + pF d (f - min m f) (min m f)
theorem pF_more : ∀ d f m, f + min m f < d → pF (d + 1) f m = pF d f m := by
  intro d
  induction d with
  | zero => intro f m h; omega
  | succ d ih =>
    intro f m h
    rw [pF]
    conv => rhs; rw [pF]
    by_cases hf : f = 0
    · rw [if_pos hf, if_pos hf]
    · rw [if_neg hf, if_neg hf]
      by_cases hm : min m f = 0
      · rw [if_pos hm, if_pos hm]
      · rw [if_neg hm, if_neg hm, ih f (min m f - 1) (by omega), ih (f - min m f) (min m f) (by omega)]
theorem pF_at {f m d : Nat} (h : f + min m f < d) : ∀ k, pF (d + k) f m = pF d f m := by
  intro k
  induction k with
  | zero => rfl
  | succ k ih => rw [← Nat.add_assoc, pF_more _ _ _ (by omega), ih]
/-- how many divisions -/
def pV (f m : Nat) : Nat := pF (f + min m f + 1) f m
theorem pV_min (f m : Nat) : pV f (min m f) = pV f m := by
  unfold pV
  rw [show min (min m f) f = min m f by omega, pF, pF, show min (min m f) f = min m f by omega]
theorem pV_zero (m : Nat) : pV 0 m = 1 := by unfold pV; rw [pF, if_pos rfl]
theorem pV_none {f : Nat} (h : 0 < f) : pV f 0 = 0 := by unfold pV; rw [pF, if_neg (by omega), if_pos (by omega)]
theorem pV_step {f m : Nat} (h1 : 0 < m) (h2 : m ≤ f) : pV f m = pV f (m - 1) + pV (f - m) m := by
  have e : min m f = m := by omega
  have e1 : pV f m = pF (f + m) f (m - 1) + pF (f + m) (f - m) m := by
    unfold pV
    rw [pF, if_neg (by omega), if_neg (by omega), e]
  rw [e1]
  congr 1
  · unfold pV
    have := pF_at (f := f) (m := m - 1) (d := f + min (m - 1) f + 1) (by omega) 0
    rw [show f + m = f + min (m - 1) f + 1 by omega]
  · unfold pV
    rw [show f + m = (f - m + min m (f - m) + 1) + (f + m - (f - m + min m (f - m) + 1)) by omega]
    exact pF_at (by omega) _
theorem pF_le : ∀ d f m, pF d f m ≤ 2 ^ (f + min m f) := by
  intro d
  induction d with
  | zero => intro f m; rw [pF]; exact Nat.zero_le _
  | succ d ih =>
    intro f m
    rw [pF]
    split
    · exact Nat.one_le_two_pow
    · split
      · exact Nat.zero_le _
      · rename_i h1 h2
        have a := ih f (min m f - 1)
        have b := ih (f - min m f) (min m f)
        have c1 : 2 ^ (f + min (min m f - 1) f) ≤ 2 ^ (f + min m f - 1) := Nat.pow_le_pow_right (by omega) (by omega)
        have c2 : 2 ^ (f - min m f + min (min m f) (f - min m f)) ≤ 2 ^ (f + min m f - 1) := Nat.pow_le_pow_right (by omega) (by omega)
        have c3 : 2 ^ (f + min m f) = 2 ^ (f + min m f - 1) * 2 := by rw [← Nat.pow_succ]; congr 1; omega
        omega
theorem pV_le {f m : Nat} (hf : f ≤ 30) : pV f m ≤ 1152921504606846976 := by
  have h1 := pF_le (f + min m f + 1) f m
  have h2 : 2 ^ (f + min m f) ≤ 2 ^ 60 := Nat.pow_le_pow_right (by omega) (by omega)
  have h3 : (2 : Nat) ^ 60 = 1152921504606846976 := by decide
  unfold pV
  omega
/-- a division -/
def divOk (l : List Nat) : Bool := match l with
  | [] => true
  | [x] => decide (1 ≤ x ∧ x ≤ 30)
  | x :: y :: r => decide (1 ≤ x ∧ x ≤ 30 ∧ y ≤ x) && divOk (y :: r)
/-- divisions turned: i copies of the differences, from the last one -/
def turnedN (l : List Nat) : Nat → List Nat
  | 0 => []
  | i + 1 => List.replicate (l.getD i 0 - l.getD (i + 1) 0) (i + 1) ++ turnedN l i
/-- the number of a division -/
def numD : List Nat → Nat → Nat
  | [], _ => 0
  | x :: r, left => pV left (x - 1) + numD r (left - x)
end Go.Proofs.YtbgakdpbglpfaaaGreatDoor
-- the text BuT
namespace Go.Proofs.YtbgakdpbglpfaaaGreatDoor
open Go.RowKit
section
variable {w w' : World} {g : Nat}
theorem cell_keep {p : Nat} {o : Nat} (hk : w'.heap[p]? = w.heap[p]?) : w'.cell? ⟨p, o, none⟩ = w.cell? ⟨p, o, none⟩ := by
  unfold World.cell?
  rw [hk]
end
/-- the cells that the closure reads -/
def ClC (w : World) (g g3 g4 g5 f m : Nat) : Prop := w.cell? ⟨g3, 0, none⟩ = some (.pointer (some ⟨g, 0, none⟩)) ∧ w.cell? ⟨g4, 0, none⟩ = some (.int .i64 (f : Int)) ∧ w.cell? ⟨g5, 0, none⟩ = some (.int .i64 (m : Int)) ∧ g3 ≠ g ∧ g4 ≠ g ∧ g5 ≠ g ∧ g3 < w.heap.size ∧ g4 < w.heap.size ∧ g5 < w.heap.size
theorem ClC.next {w w' : World} {g g3 g4 g5 f m : Nat} (h : ClC w g g3 g4 g5 f m) (hg : w.grownBy w' (some g)) : ClC w' g g3 g4 g5 f m := by
  obtain ⟨a1, a2, a3, b1, b2, b3, c1, c2, c3⟩ := h
  have k : ∀ p, p ≠ g → p < w.heap.size → w'.heap[p]? = w.heap[p]? := fun p h1 h2 => hg.block p h2 (fun e => h1 (by injection e))
  exact ⟨(cell_keep (k _ b1 c1)).trans a1, (cell_keep (k _ b2 c2)).trans a2, (cell_keep (k _ b3 c3)).trans a3, b1, b2, b3, Nat.lt_of_lt_of_le c1 hg.size, Nat.lt_of_lt_of_le c2 hg.size, Nat.lt_of_lt_of_le c3 hg.size⟩
theorem grown_trans {w w' w'' : World} {r : Option Nat} (h : w.grownBy w' r) (h2 : w'.grownBy w'' r) : w.grownBy w'' r :=
  ⟨h2.os.trans h.os, h2.tape.trans h.tape, h2.output.trans h.output, Nat.le_trans h.size h2.size, fun i hi hn => (h2.block i (Nat.lt_of_lt_of_le hi h.size) hn).trans (h.block i hi hn)⟩
theorem grown_wider {w w' : World} {g : Nat} (h : w.grownBy w' none) : w.grownBy w' (some g) :=
  ⟨h.os, h.tape, h.output, h.size, fun i hi _ => h.block i hi (by simp)⟩
end Go.Proofs.YtbgakdpbglpfaaaGreatDoor
-- the text BuC
namespace Go.Proofs.YtbgakdpbglpfaaaGreatDoor
open Go.RowKit
def noTab : Array Value := Array.replicate 961 (.pointer none)
namespace Bu
/-- a division, as a list of numbers -/
structure Div (xs : List Nat) : Prop where
  pos : ∀ x ∈ xs, 1 ≤ x ∧ x ≤ 30
  desc : xs.Pairwise (fun a b => b ≤ a)
  sum : xs.sum ≤ 30
def natI (xs : List Nat) : List Int := xs.map fun x : Nat => (x : Int)
theorem natI_at {xs : List Nat} {i : Nat} {z : Int} (h : (natI xs)[i]? = some z) : ∃ x, xs[i]? = some x ∧ z = (x : Int) := by
  unfold natI at h
  rw [List.getElem?_map] at h
  cases hx : xs[i]? with
  | none => rw [hx] at h; cases h
  | some x => rw [hx] at h; exact ⟨x, rfl, by simpa using h.symm⟩
theorem sum_take {xs : List Nat} {i x : Nat} (h : xs[i]? = some x) : (xs.take (i + 1)).sum = (xs.take i).sum + x := by
  rw [List.take_add_one, h, Option.toList_some, List.sum_append]
  simp
theorem sum_le (xs : List Nat) (i : Nat) : (xs.take i).sum ≤ xs.sum := by
  conv => rhs; rw [← List.take_append_drop i xs]
  rw [List.sum_append]
  omega
theorem Div.len {xs : List Nat} (h : Div xs) : xs.length ≤ 30 := by
  have : ∀ l : List Nat, (∀ x ∈ l, 1 ≤ x ∧ x ≤ 30) → l.length ≤ l.sum := by
    intro l
    induction l with
    | nil => intro _; simp
    | cons a l ih =>
      intro h
      have h1 := h a (by simp)
      have h2 := ih fun x hx => h x (by simp [hx])
      simp only [List.length_cons, List.sum_cons]
      omega
  have h1 := this xs h.pos
  have h2 := h.sum
  omega
theorem numD_step {xs : List Nat} {i x : Nat} (h : xs[i]? = some x) (left : Nat) : numD (xs.drop i) left = pV left (x - 1) + numD (xs.drop (i + 1)) (left - x) := by
  obtain ⟨hl, he⟩ := List.getElem?_eq_some_iff.1 h
  rw [List.drop_eq_getElem_cons hl, he, numD]
end Bu
end Go.Proofs.YtbgakdpbglpfaaaGreatDoor
