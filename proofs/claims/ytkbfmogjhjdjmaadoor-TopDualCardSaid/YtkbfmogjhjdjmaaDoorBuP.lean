/- Plain: how many divisions of f feathers have no number greater than m; divisions turned, and their numbers. -/
import Derived.Test.YtkbfmogjhjdjmaaDoorKit
namespace Go.Proofs.YtkbfmogjhjdjmaaDoor
def pF : Nat → Nat → Nat → Nat
  | 0, _, _ => 0
  | d + 1, f, m => if f = 0 then 1 else if min m f = 0 then 0 else pF d f (min m f - 1) + pF d (f - min m f) (min m f)
theorem pF_more : ∀ d f m, f + min m f < d → pF (d + 1) f m = pF d f m := by
  intro d
  induction d with
  | zero => intro f m h; omega
  | succ d ih =>
    intro f m h
    rw [pF]
    conv => rhs; rw [pF]
    by_cases hf : f = 0
    · rw [if_pos hf, if_pos hf]
    · rw [if_neg hf, if_neg hf]
      by_cases hm : min m f = 0
      · rw [if_pos hm, if_pos hm]
      · rw [if_neg hm, if_neg hm, ih f (min m f - 1) (by omega), ih (f - min m f) (min m f) (by omega)]
theorem pF_at {f m d : Nat} (h : f + min m f < d) : ∀ k, pF (d + k) f m = pF d f m := by
  intro k
  induction k with
  | zero => rfl
  | succ k ih => rw [← Nat.add_assoc, pF_more _ _ _ (by omega), ih]
/-- how many divisions -/
def pV (f m : Nat) : Nat := pF (f + min m f + 1) f m
theorem pV_min (f m : Nat) : pV f (min m f) = pV f m := by
  unfold pV
  rw [show min (min m f) f = min m f by omega, pF, pF, show min (min m f) f = min m f by omega]
theorem pV_zero (m : Nat) : pV 0 m = 1 := by unfold pV; rw [pF, if_pos rfl]
theorem pV_none {f : Nat} (h : 0 < f) : pV f 0 = 0 := by unfold pV; rw [pF, if_neg (by omega), if_pos (by omega)]
theorem pV_step {f m : Nat} (h1 : 0 < m) (h2 : m ≤ f) : pV f m = pV f (m - 1) + pV (f - m) m := by
  have e : min m f = m := by omega
  have e1 : pV f m = pF (f + m) f (m - 1) + pF (f + m) (f - m) m := by
    unfold pV
    rw [pF, if_neg (by omega), if_neg (by omega), e]
  rw [e1]
  congr 1
  · unfold pV
    have := pF_at (f := f) (m := m - 1) (d := f + min (m - 1) f + 1) (by omega) 0
    rw [show f + m = f + min (m - 1) f + 1 by omega]
  · unfold pV
    rw [show f + m = (f - m + min m (f - m) + 1) + (f + m - (f - m + min m (f - m) + 1)) by omega]
    exact pF_at (by omega) _
theorem pF_le : ∀ d f m, pF d f m ≤ 2 ^ (f + min m f) := by
  intro d
  induction d with
  | zero => intro f m; rw [pF]; exact Nat.zero_le _
  | succ d ih =>
    intro f m
    rw [pF]
    split
    · exact Nat.one_le_two_pow
    · split
      · exact Nat.zero_le _
      · rename_i h1 h2
        have a := ih f (min m f - 1)
        have b := ih (f - min m f) (min m f)
        have c1 : 2 ^ (f + min (min m f - 1) f) ≤ 2 ^ (f + min m f - 1) := Nat.pow_le_pow_right (by omega) (by omega)
        have c2 : 2 ^ (f - min m f + min (min m f) (f - min m f)) ≤ 2 ^ (f + min m f - 1) := Nat.pow_le_pow_right (by omega) (by omega)
        have c3 : 2 ^ (f + min m f) = 2 ^ (f + min m f - 1) * 2 := by rw [← Nat.pow_succ]; congr 1; omega
        omega
theorem pV_le {f m : Nat} (hf : f ≤ 30) : pV f m ≤ 1152921504606846976 := by
  have h1 := pF_le (f + min m f + 1) f m
  have h2 : 2 ^ (f + min m f) ≤ 2 ^ 60 := Nat.pow_le_pow_right (by omega) (by omega)
  have h3 : (2 : Nat) ^ 60 = 1152921504606846976 := by decide
  unfold pV
  omega
/-- a division -/
def divOk (l : List Nat) : Bool := match l with
  | [] => true
  | [x] => decide (1 ≤ x ∧ x ≤ 30)
  | x :: y :: r => decide (1 ≤ x ∧ x ≤ 30 ∧ y ≤ x) && divOk (y :: r)
/-- divisions turned: i copies of the differences, from the last one -/
def turnedN (l : List Nat) : Nat → List Nat
  | 0 => []
  | i + 1 => List.replicate (l.getD i 0 - l.getD (i + 1) 0) (i + 1) ++ turnedN l i
/-- the number of a division -/
def numD : List Nat → Nat → Nat
  | [], _ => 0
  | x :: r, left => pV left (x - 1) + numD r (left - x)
end Go.Proofs.YtkbfmogjhjdjmaaDoor
