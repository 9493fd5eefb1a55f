/- Plain: what the program's runs reckon is what the reference reckons. -/
import Derived.Test.YtdaaiockkbolbaaRefLonger
import Derived.Test.YtdaaiockkbolbaaLonger
namespace Go.Proofs.Ytdaaiockkbolbaa
open Go.RowKit
theorem clean_iff {l : Word} : cleanS l = true ↔ ∀ e, 1 ≤ e → e ≤ l.length → endsS (l.take e) = 0 := by
  unfold cleanS repS
  cases hf : (List.range' (0 + 1) (l.length - 0)).find? fun e => decide (0 < endsS (l.take e)) with
  | some e =>
    rw [List.find?_range'_eq_some] at hf
    obtain ⟨h1, h2, _⟩ := hf
    have h1' : 0 < endsS (l.take e) := by simpa using h1
    have h2' : 1 ≤ e ∧ e < 1 + l.length := by simpa using h2
    constructor
    · intro h
      have : endsS (l.take e) = 0 := by simpa using h
      omega
    · intro h
      have := h e h2'.1 (by omega)
      omega
  | none =>
    rw [List.find?_range'_eq_none] at hf
    constructor
    · intro _ e h1 h2
      have := hf e (by omega) (by omega)
      have h3 : ¬ 0 < endsS (l.take e) := by simpa using this
      omega
    · intro _; rfl
theorem clean_snoc {x : Word} (h : cleanS x = true) (c : UInt8) : cleanS (x ++ [c]) = true ↔ endsS (x ++ [c]) = 0 := by
  rw [clean_iff] at h ⊢
  constructor
  · intro h2
    have := h2 (x.length + 1) (by omega) (by simp)
    rwa [List.take_of_length_le (by simp)] at this
  · intro h2 e h3 h4
    by_cases he : e ≤ x.length
    · rw [List.take_append_of_le_length he]; exact h e h3 he
    · rw [List.take_of_length_le (by simp; omega)]; exact h2
theorem runN_go {x : Word} (h : cleanS x = true) (k : Nat) : ∀ j, runL stepN x k (97 + j) (nextP x j) = (true, nextP x (j + k)) := by
  induction k with
  | zero => intro j; rfl
  | succ k ih =>
    intro j
    have hst : stepN (nextP x j) (x ++ [(97 + j).toUInt8]) = (true, nextP x j ++ [(97 + j).toUInt8]) := by simp [stepN]
    have hi := ih (j + 1)
    rw [show j + 1 + k = j + (k + 1) by omega, ← Nat.add_assoc] at hi
    rw [runL, hst]
    by_cases he : endsS (x ++ [(97 + j).toUInt8]) = 0
    · rw [nextP, if_pos ((clean_snoc h _).2 he)] at hi
      rw [if_pos he, if_pos rfl]
      exact hi
    · rw [nextP, if_neg (fun h2 => he ((clean_snoc h _).1 h2))] at hi
      rw [if_neg he]
      exact hi
/-- Next is the reference's -/
theorem next_go (x : Word) (n : Int) : nextV x n = nextVR x n := by
  unfold nextV nextVR
  by_cases hc : begE x n = 0
  · rw [if_pos hc, if_pos hc]
    have h := runN_go (begE_zero hc).2.2.2.2 n.toNat 0
    rw [Nat.zero_add] at h
    have e : runW stepN n.toNat 1 [] x = runL stepN x n.toNat (97 + 0) (nextP x 0) := rfl
    rw [e, h]
  · rw [if_neg hc, if_neg hc]
/-- k letters from the j-th on, those with which x is clear -/
def restP (x : Word) : Nat → Nat → Word
  | _, 0 => []
  | j, k + 1 => if cleanS (x ++ [(97 + j).toUInt8]) then (97 + j).toUInt8 :: restP x (j + 1) k else restP x (j + 1) k
theorem next_rest (x : Word) (k : Nat) : ∀ j, nextP x (j + k) = nextP x j ++ restP x j k := by
  induction k with
  | zero => intro j; simp [restP]
  | succ k ih =>
    intro j
    have hi := ih (j + 1)
    rw [show j + 1 + k = j + (k + 1) by omega] at hi
    rw [hi, nextP, restP]
    by_cases hc : cleanS (x ++ [(97 + j).toUInt8]) = true
    · rw [if_pos hc, if_pos hc]; simp
    · rw [if_neg hc, if_neg hc]
theorem next_all (x : Word) (n : Nat) : nextP x n = restP x 0 n := by
  have := next_rest x n 0
  rw [Nat.zero_add] at this
  simpa [nextP] using this
def endL (s : Option Word) : Option Word → Bool × Option Word
  | some y => (false, some y)
  | none => (true, s)
theorem longer_go (n m : Nat) : ∀ (x : Word) (s : Option Word), cleanS x = true → runW stepL n m s x = endL s (lonR n m x) := by
  induction m with
  | zero => intro x s h; rfl
  | succ m ih =>
    intro x s h
    have hall : ∀ k j, runL (runW stepL n m) x k (97 + j) s = endL s (firstL (lonR n m) x (restP x j k)) := by
      intro k
      induction k with
      | zero => intro j; rfl
      | succ k ik =>
        intro j
        have hi := ik (j + 1)
        rw [← Nat.add_assoc] at hi
        rw [runL, restP]
        by_cases he : endsS (x ++ [(97 + j).toUInt8]) = 0
        · have hcl := (clean_snoc h _).2 he
          rw [if_pos he, if_pos hcl, ih _ s hcl, firstL]
          cases hf : lonR n m (x ++ [(97 + j).toUInt8]) with
          | some y => rfl
          | none => exact hi
        · rw [if_neg he, if_neg (fun h2 => he ((clean_snoc h _).1 h2))]
          exact hi
    have e := hall n 0
    rw [← next_all] at e
    exact e
theorem longR_go {x : Word} (h : cleanS x = true) (n m : Nat) : longR x n m = lonR n m x := by
  unfold longR
  rw [longer_go n m x none h]
  cases lonR n m x <;> rfl
/-- Longer is the reference's -/
theorem longV_go (x : Word) (n l : Int) : longV x n l = longVR x n l := by
  unfold longV longVR
  by_cases hc : begE x n = 0
  · rw [longR_go (begE_zero hc).2.2.2.2]
  · rw [if_pos hc, if_pos hc]
theorem longE_go (x : Word) (n l : Int) : longE x n l = longER x n l := by
  unfold longE longER
  by_cases hc : begE x n = 0
  · rw [longR_go (begE_zero hc).2.2.2.2]
  · rw [if_pos hc, if_pos hc]
end Go.Proofs.Ytdaaiockkbolbaa
