/- The list of turns, in plain words. -/
import Derived.Test.YtjhcemhnnkcjaaaDoorTogether
namespace Go.Proofs.YtjhcemhnnkcjaaaDoor
open Go.RowKit
def upd (a : Nat → Nat) (s x : Nat) : Nat → Nat := fun i => if i = s then x else a i
/-- is it a step up the line: n of R rings, l moves left behind this one -/
def upC (R n l : Nat) : Bool := decide (n < 2 ^ R - 1) && decide (n + 1 ≤ l / 2) && (decide (n = 0) || decide (tz (n + 1) < tz n))
def turnsGo (r : Nat → Nat) : Nat → Nat → (Nat → Nat) → List Int
  | 0, _, _ => []
  | l + 1, s, a => if upC (r s) (a s) l then (tz (a s + 1) : Int) :: turnsGo r l (1 - s) (upd a s (a s + 1)) else (tz (a s) : Int) :: turnsGo r l (1 - s) (upd a s (a s - 1))
theorem turnsGo_up {r a : Nat → Nat} {l s : Nat} (h : upC (r s) (a s) l = true) : turnsGo r (l + 1) s a = (tz (a s + 1) : Int) :: turnsGo r l (1 - s) (upd a s (a s + 1)) := by rw [turnsGo, if_pos h]
theorem turnsGo_down {r a : Nat → Nat} {l s : Nat} (h : upC (r s) (a s) l = false) : turnsGo r (l + 1) s a = (tz (a s) : Int) :: turnsGo r l (1 - s) (upd a s (a s - 1)) := by rw [turnsGo, if_neg (by simp [h])]
theorem turnsGo_length (r : Nat → Nat) (l s : Nat) (a : Nat → Nat) : (turnsGo r l s a).length = l := by
  induction l generalizing s a with
  | zero => rfl
  | succ l ih => rw [turnsGo]; split <;> simp [ih]
/-- what can be opened in so many moves in turns, this side first -/
def opensC (a : Nat → Nat) (s L : Nat) : Prop := a s ≤ (L + 1) / 2 ∧ ((L + 1) / 2 - a s) % 2 = 0 ∧ a (1 - s) ≤ L / 2 ∧ (L / 2 - a (1 - s)) % 2 = 0
theorem two_R {R : Nat} (h : 1 ≤ R) : 2 ≤ 2 ^ R := by
  have : 2 ^ 1 ≤ 2 ^ R := Nat.pow_le_pow_right (by omega) h
  omega
theorem upC_zero {R l : Nat} (hR : 1 ≤ R) (hl : 2 ≤ l) : upC R 0 l = true := by
  have := two_R hR
  simp [upC]; omega
theorem opensC_zero {a : Nat → Nat} {s l : Nat} (h : opensC a s (l + 1)) (h0 : a s = 0) : 2 ≤ l := by
  obtain ⟨h1, h2, _, _⟩ := h
  rw [h0] at h2
  omega
theorem opensC_up {R l s : Nat} {a : Nat → Nat} (hs : s < 2) (h : opensC a s (l + 1)) (hu : upC R (a s) l = true) : opensC (upd a s (a s + 1)) (1 - s) l ∧ a s + 1 < 2 ^ R := by
  have hu' : a s < 2 ^ R - 1 ∧ a s + 1 ≤ l / 2 := by simp [upC] at hu; omega
  obtain ⟨h1, h2, h3, h4⟩ := h
  refine ⟨⟨?_, ?_, ?_, ?_⟩, by omega⟩
  · rw [upd, if_neg (by omega)]; exact h3
  · rw [upd, if_neg (by omega)]; exact h4
  · rw [upd, if_pos (by omega)]; omega
  · rw [upd, if_pos (by omega)]; omega
theorem opensC_down {R l s : Nat} {a : Nat → Nat} (hs : s < 2) (hR : 1 ≤ R) (h : opensC a s (l + 1)) (hu : upC R (a s) l = false) : opensC (upd a s (a s - 1)) (1 - s) l ∧ 1 ≤ a s := by
  have hp : 1 ≤ a s := by
    refine Classical.byContradiction fun hn => ?_
    have h0 : a s = 0 := by omega
    have h2 := opensC_zero h h0
    rw [h0, upC_zero hR h2] at hu
    cases hu
  obtain ⟨h1, h2, h3, h4⟩ := h
  refine ⟨⟨?_, ?_, ?_, ?_⟩, hp⟩
  · rw [upd, if_neg (by omega)]; exact h3
  · rw [upd, if_neg (by omega)]; exact h4
  · rw [upd, if_pos (by omega)]; omega
  · rw [upd, if_pos (by omega)]; omega
theorem few_opens (a b : Nat) (c : Nat → Nat) (h0 : c 0 = a) (h1 : c 1 = b) : opensC c 0 (fewN a b) := by
  unfold opensC fewN
  rw [show c (1 - 0) = b from h1, h0]
  split <;> omega
def pairR (n m : Nat) : Nat → Nat := fun i => if i = 0 then n else m
def turnsL (xs ys : List Int) : List Int := if pairE xs ys = 0 then turnsGo (pairR xs.length ys.length) (fewN (numS xs) (numS ys)) 0 (pairR (numS xs) (numS ys)) else []
/-- the couple's cells -/
def coupA (r a : Nat → Nat) : Array Value := coupC (r 0) (r 1) (a 0) (a 1)
theorem coupA_r {r a : Nat → Nat} {s : Nat} (hs : s < 2) : (coupA r a)[s]? = some (.int .i64 (r s)) := by
  match s, hs with
  | 0, _ => rfl
  | 1, _ => rfl
theorem coupA_a {r a : Nat → Nat} {s : Nat} (hs : s < 2) : (coupA r a)[2 + s]? = some (.int .i64 (a s)) := by
  match s, hs with
  | 0, _ => rfl
  | 1, _ => rfl
theorem coupA_set {r a : Nat → Nat} {s : Nat} (hs : s < 2) (x : Nat) : (coupA r a).setIfInBounds (2 + s) (.int .i64 x) = coupA r (upd a s x) := by
  match s, hs with
  | 0, _ => rfl
  | 1, _ => rfl
theorem upC_no1 {R n l : Nat} (h : ¬ n < 2 ^ R - 1) : upC R n l = false := by simp [upC, h]
theorem upC_no2 {R n l : Nat} (h : ¬ n + 1 ≤ l / 2) : upC R n l = false := by simp [upC, h]
theorem upC_no3 {R n l : Nat} (h : 0 < n) (h' : ¬ tz (n + 1) < tz n) : upC R n l = false := by simp [upC]; intros; exact ⟨by omega, by omega⟩
theorem upC_yes0 {R l : Nat} (h1 : 0 < 2 ^ R - 1) (h2 : 1 ≤ l / 2) : upC R 0 l = true := by simp [upC]; omega
theorem upC_yes {R n l : Nat} (h1 : n < 2 ^ R - 1) (h2 : n + 1 ≤ l / 2) (h3 : tz (n + 1) < tz n) : upC R n l = true := by simp [upC]; omega
end Go.Proofs.YtjhcemhnnkcjaaaDoor
